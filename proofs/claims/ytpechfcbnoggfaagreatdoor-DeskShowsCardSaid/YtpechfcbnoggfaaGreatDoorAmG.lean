/- part -/
import Derived.Test.YtpechfcbnoggfaaGreatDoorAm16
import Derived.KernelRfl
set_option linter.unusedVariables false
set_option linter.unusedSimpArgs false
section
namespace Go.AM
open Go Go.NB
def idB : Nat → List Rn → Nat → Bool
 | _, _, 0 => true
 | i, .same j :: r, n + 1 => Nat.beq i j && idB (i + 1) r n
 | _, _, _ => false
theorem idB_spec : ∀ {n i : Nat} {ρ : List Rn}, idB i ρ n = true → ∀ q, q < n → ρ[q]? = some (.same (i + q))
 | 0, _, _, _, q, h => by omega
 | n + 1, i, .same j :: r, h, q, hq => by
  simp only [idB, Bool.and_eq_true] at h
  obtain rfl := Nat.eq_of_beq_eq_true h.1
  cases q with
  | zero => rfl
  | succ q =>
   have := idB_spec h.2 q (by omega)
   rw [List.getElem?_cons_succ, this]
   congr 2
   omega
 | n + 1, i, [], h, _, _ => by cases h
 | n + 1, i, .new :: _, h, _, _ => by cases h
 | n + 1, i, .cut .. :: _, h, _, _ => by cases h
def mE (ah : List B) (ρ : List Rn) (env0 : List (Nat × A)) : List (Nat × A) → Prop
 | [] => True
 | (t, x) :: r => (match lk env0 t with
  | some x0 => mA (fun _ => false) ah ρ x0 x
  | none => match x with
   | .undef => True
   | _ => False) ∧ mE ah ρ env0 r
def le (n0 : Nat) (js : List Nat) (ρ : List Rn) (s t : St) : Prop :=
 bif idB 0 ρ n0 && nodupB (usedOf ρ t.ah) then mE (frz js s.ah) ρ s.env t.env ∧ mBs (fun _ => false) (frz js s.ah) ρ ρ t.ah else False
def LE (n0 : Nat) (s t : St) : Prop := ∃ js ρ, le n0 js ρ s t
def lex (n0 : Nat) (js : List Nat) (ρ : List Rn) (ah : List B) (x0 x : A) (tah : List B) : Prop :=
 bif idB 0 ρ n0 && nodupB (usedOf ρ tah) then mA (fun _ => false) (frz js ah) ρ x0 x ∧ mBs (fun _ => false) (frz js ah) ρ ρ tah else False
def Again {ι : Type} (n0 : Nat) (I : ι → St) (inv : ι → Prop) (m : ι → Nat) (lt : Nat) (s : St) : Prop := ∃ y, (inv y ∧ m y < lt) ∧ LE n0 s (I y)
abbrev Mn : Type 1 := St → (XE → St → Prop) → Prop
def xNorm : Mn := fun s K => K .normal s
def xRet : Mn := fun s K => K .ret s
def xExit (id : Nat) : Mn := fun s K => K (.exit id) s
def xNo : Mn := fun _ _ => False
def xSeq (x y : Mn) : Mn := fun s K => x s fun e s' => match e with
  | .normal => y s' K
  | e => K e s'
def xBlock (id : Nat) (b : Mn) : Mn := fun s K => b s fun e s' => match e with
  | .exit i => bif Nat.beq i id then K .normal s' else K (.exit i) s'
  | e => K e s'
def xCond (x : Operand) (a b : Mn) : Mn := fun s K => match opn s x with
  | .c (.bool q) => @Bool.rec (fun _ => Prop) (b s K) (a s K) q
  | _ => False
def xLoop (n0 : Nat) (b : Mn) : Mn := fun s K => ∃ (ι : Type) (I : ι → St) (inv : ι → Prop) (m : ι → Nat), (∃ y, inv y ∧ LE n0 s (I y)) ∧ ∀ x, inv x → b (I x) fun e s' => match e with
  | .normal => Again n0 I inv m (m x) s'
  | e => K e s'
def xRegion (c : Cfg) (ops : Array Oper) (draw : Bool) : Mn := fun s K => bif draw then ∃ m g t, drawOK m g c.tab ops t = true ∧ (XT c ops (lateM m ops (bitsAll ops.toList #[])) g (K .normal) (fun v s => K (.pan v) ⟨[], s.ah⟩) t s ∨ ∃ (ι : Type) (I : ι → St) (J : ι → Prop), XT c ops (lateM m ops (bitsAll ops.toList #[])) g (fun s' => ∃ i, J i ∧ LE c.n0 s' (I i)) (fun v s => K (.pan v) ⟨[], s.ah⟩) t s ∧ ∀ i, J i → K .normal (I i))
   else Xl c ops (ops.toList.map fun o => (G.any, o)) s (K .normal) (fun v s => K (.pan v) s)
def X (c : Cfg) (code : Code) : Mn :=
 Code.rec (motive := fun _ => Mn) xNorm (fun _ ops draw => xRegion c ops draw) (fun _ _ x y => xSeq x y) (fun x _ _ a b => xCond x a b) (fun id _ b => xBlock id b) (fun _ b => xLoop c.n0 b)
  (fun _ _ _ _ _ _ => xNo) xExit (fun _ _ => xNo) (fun _ => xNorm) (fun _ => xNo) xRet (fun _ => xNo) code
section
variable {c : Cfg} {r : Run}
theorem mE_sound {E : En} {F : Nat → Prop} {γ : List Value} {ah : List B} {H : Heap} {ρ : List Rn} {env0 : List (Nat × A)} {a : Act} (hf : ∀ x0 x v, mA (fun _ => false) ah ρ x0 x → RA F H ⟨E.B, γ⟩ x0 v → RA F H ⟨E.B, ρ.map (gOf γ)⟩ x v) (hE : ER F H ⟨E.B, γ⟩ env0 a) :
  ∀ {env : List (Nat × A)}, mE ah ρ env0 env → ER F H ⟨E.B, ρ.map (gOf γ)⟩ env a
 | [], _ => fun t x h => by cases h
 | (t, x) :: rr, ⟨h1, h2⟩ => fun t' x' hl => by
  unfold lk at hl
  by_cases e : Nat.beq t t' = true
  ·rw [e] at hl
   cases hl
   obtain rfl := Nat.eq_of_beq_eq_true e
   split at h1
   ·rename_i x0 hx0; exact hf _ _ _ h1 (hE t x0 hx0)
   ·split at h1
    ·trivial
    ·exact h1.elim
  ·rw [Bool.not_eq_true] at e
   rw [e] at hl
   exact mE_sound hf hE h2 t' x' hl
theorem lex_sound {E : En} {F : Nat → Prop} {γ : List Value} {ah : List B} {H : Heap} {js : List Nat} {ρ : List Rn} {x0 x : A} {tah : List B} {v : Value} (hn : E.γ0.length = c.n0) (hW : WR E F γ ah H) (hx : RA F H ⟨E.B, γ⟩ x0 v) (h : lex c.n0 js ρ ah x0 x tah) :
  ∃ F' γ', WR E F' γ' tah H ∧ RA F' H ⟨E.B, γ'⟩ x v := by
 obtain ⟨hc, h1, h2⟩ := bguard h
 rw [Bool.and_eq_true] at hc
 obtain ⟨F1, hF1, hW1⟩ := frz_sound (js := js) hW
 have hid := idB_spec hc.1
 obtain ⟨g1, _⟩ := weaken hW1 h2 hc.2 (fun i hi => by have := hid i (by rw [← hn]; exact hi); rw [Nat.zero_add] at this; exact this)
 exact ⟨F1, _, g1, mA_sound hW1 (fun _ h => h) (fun j b g h => by cases h) h1 (hx.ext (frozen_ext hF1))⟩
theorem LE_sound (hn : r.E.γ0.length = c.n0) {s t : St} {a : Act} {w : World} (h : LE c.n0 s t) (hs : SR c r s .undef undef a w) : SR c r t .undef undef a w := by
 obtain ⟨js, ρ, h⟩ := h
 obtain ⟨F, γ, h1, h2, h3, hW, hE, _⟩ := hs
 obtain ⟨hc, g1, g2⟩ := bguard h
 rw [Bool.and_eq_true] at hc
 obtain ⟨F1, hF1, hW1⟩ := frz_sound (js := js) hW
 have hid := idB_spec hc.1
 obtain ⟨g3, _⟩ := weaken hW1 g2 hc.2 (fun i hi => by have := hid i (by rw [← hn]; exact hi); rw [Nat.zero_add] at this; exact this)
 exact ⟨F1, _, h1, h2, h3, g3, mE_sound (fun x0 x v h hr => mA_sound hW1 (fun _ h => h) (fun j b g h => by cases h) h hr) (hE.ext (frozen_ext hF1)) g1, trivial⟩
theorem X_sound (hT : TabOk c.P c.tab) (hm : c.P.follows .mixedOrders = true) (hn : r.E.γ0.length = c.n0) : ∀ (code : Code) (s : St) (K : XE → St → Prop) (a : Act) (w : World), X c code s K → SR c r s .undef undef a w → code.wp c.P (Qk c r K) a w := by
 intro code
 induction code with
 | skip => intro s K a w h hs; exact wp_skip ⟨s, h, hs⟩
 | label l => intro s K a w h hs; exact wp_label ⟨s, h, hs⟩
 | exit id => intro s K a w h hs; exact wp_exit ⟨s, h, hs⟩
 | ret => intro s K a w h hs; exact wp_ret ⟨s, h, hs⟩
 | seq x y ihx ihy =>
  intro s K a w h hs
  refine wp_seq (Code.wp_mono (fun e a w hq => ?_) (ihx s _ a w h hs))
  cases e with
  | normal => obtain ⟨s', h', hs'⟩ := hq; exact ihy s' K a w h' hs'
  | exit id => exact hq
  | goto l => exact hq
  | ret => exact hq
  | panic ch => exact hq
  | outgrown => exact hq
 | block id b ih =>
  intro s K a w h hs
  refine wp_block (Code.wp_mono (fun e a w hq => ?_) (ih s _ a w h hs))
  cases e with
  | normal => exact hq
  | exit i =>
   obtain ⟨s', h', hs'⟩ := hq
   show (if i = id then Qk c r K .normal a w else Qk c r K (.exit i) a w)
   rcases bcase h' with ⟨e, h'⟩ | ⟨e, h'⟩
   ·rw [if_pos (Nat.eq_of_beq_eq_true e)]; exact ⟨s', h', hs'⟩
   ·rw [if_neg (fun h => by subst h; simp at e)]; exact ⟨s', h', hs'⟩
  | goto l => exact hq
  | ret => exact hq
  | panic ch => exact hq
  | outgrown => exact hq
 | cond x y z ihy ihz =>
  intro s K a w h hs
  have h : xCond x (X c y) (X c z) s K := h
  unfold xCond at h
  split at h
  ·rename_i q hx
   have hs' := hs
   obtain ⟨F, γ, h1, h2, h3, hW, hE, _⟩ := hs'
   have hc := opn_c hE hx
   generalize hv : a.eval x = v at hc
   cases hc with
   | bool _ =>
    refine wp_cond_split hv (fun hb => ?_) (fun hb => ?_)
    ·subst hb; exact ihy s K a w h hs
    ·subst hb; exact ihz s K a w h hs
  ·exact h.elim
 | loop body ih =>
  intro s K a w h hs
  obtain ⟨ι, I, inv, m, ⟨y0, hi0, hle0⟩, hround⟩ := h
  intro b k cs
  have key : ∀ (q : Nat) (y : ι) (a : Act) (w : World), m y = q → inv y → SR c r (I y) .undef undef a w →
    ∃ e a' w', Qk c r K e a' w' ∧ Arrives c.P (lone (b.at a (.code body :: .inLoop body :: k)) cs w) b k cs e a' w' := by
   intro q
   induction q using Nat.strongRecOn with
   | _ q ihq =>
    intro y a w hq hi hs
    obtain ⟨ex, a1, w1, hq1, harr⟩ := ih (I y) _ a w (hround y hi) hs b (.inLoop body :: k) cs
    cases ex with
    | normal =>
     obtain ⟨s', ⟨y', ⟨hi', hlt⟩, hle⟩, hs'⟩ := hq1
     obtain ⟨ex2, a2, w2, hq2, harr2⟩ := ihq (m y') (by omega) y' a1 w1 rfl hi' (LE_sound hn hle hs')
     exact ⟨ex2, a2, w2, hq2, .of_steps (Steps.trans harr (.one step_inLoop)) harr2⟩
    | exit id => exact ⟨.exit id, a1, w1, hq1, .pass (x := .inLoop body) rfl (fun _ _ => .inl (by simp)) harr⟩
    | goto l => exact hq1.elim
    | ret => exact ⟨.ret, a1, w1, hq1, .pass (x := .inLoop body) rfl (fun _ _ => .inl (by simp)) harr⟩
    | panic ch => exact ⟨.panic ch, a1, w1, hq1, .pass (x := .inLoop body) rfl (fun _ _ => .inl (by simp)) harr⟩
    | outgrown => exact hq1.elim
  obtain ⟨e, a', w', hq, harr⟩ := key _ y0 a w rfl hi0 (LE_sound hn hle0 hs)
  exact ⟨e, a', w', hq, .of_steps (.one step_loop) harr⟩
 | region id ops draw =>
  intro s K a w h hs
  cases draw with
  | true =>
   obtain ⟨m, g, ord, h1, h2 | ⟨ι, I, J, h2, h3⟩⟩ := h
   ·exact draw_sound hT hm h1 h2 hs
   ·refine Code.wp_mono (fun e a w hq => ?_) (draw_sound (K := fun e s => match e with | .normal => ∃ i, J i ∧ LE c.n0 s (I i) | e => K e s) hT hm h1 h2 hs)
    cases e with
    | normal => obtain ⟨s', ⟨i, hi, hl⟩, hs'⟩ := hq; exact ⟨I i, h3 i hi, LE_sound hn hl hs'⟩
    | exit id => exact hq
    | goto l => exact hq
    | ret => exact hq
    | panic ch => exact hq
    | outgrown => exact hq
  | false =>
   have := Xl_sound hT (ops := ops) (Q := Qk c r K) (fun s a w hk hs => ⟨s, hk, hs⟩) (fun ch a w h => h) ops.toList s a w h hs
   have e : ops = ops.toList.toArray := by simp
   rw [e]
   rw [e] at this
   exact wp_region_lit (by simpa using this)
 | _ => intro s K a w h hs; exact h.elim
structure XM (c : Cfg) (code : Code) (s : St) (K : XE → St → Prop) : Prop where
 ok : TabOk c.P c.tab → c.P.follows .mixedOrders = true → ∀ r : Run, r.E.γ0.length = c.n0 → ∀ (a : Act) (w : World), SR c r s .undef undef a w → code.wp c.P (Qk c r K) a w
theorem XM.of {c : Cfg} {code : Code} {s : St} {K : XE → St → Prop} (h : X c code s K) : XM c code s K := ⟨fun hT hm r hn a w hs => X_sound hT hm hn code s K a w h hs⟩
theorem XM.le {c : Cfg} {code : Code} {s t : St} {K : XE → St → Prop} (js : List Nat) (ρ : List Rn) (hl : AM.le c.n0 js ρ s t) (h : XM c code t K) : XM c code s K :=
 ⟨fun hT hm r hn a w hs => h.ok hT hm r hn a w (LE_sound hn ⟨js, ρ, hl⟩ hs)⟩
theorem XM.seq {c : Cfg} {x y : Code} {s : St} {K : XE → St → Prop} (h : X c x s fun e s' => match e with | .normal => XM c y s' K | e => K e s') : XM c (.seq x y) s K := ⟨fun hT hm r hn a w hs => by
 refine wp_seq (Code.wp_mono (fun e a w hq => ?_) (X_sound hT hm hn x s _ a w h hs))
 cases e with
 | normal => obtain ⟨s', h', hs'⟩ := hq; exact h'.ok hT hm r hn a w hs'
 | exit id => exact hq
 | goto l => exact hq
 | ret => exact hq
 | panic ch => exact hq
 | outgrown => exact hq⟩
theorem XM.join {c : Cfg} {x y : Code} {s : St} {K : XE → St → Prop} {ι : Type} (I : ι → St) (J : ι → Prop) (h : X c x s fun e s' => match e with | .normal => ∃ i, J i ∧ LE c.n0 s' (I i) | e => K e s')
  (h2 : ∀ i, J i → XM c y (I i) K) : XM c (.seq x y) s K := ⟨fun hT hm r hn a w hs => by
 refine wp_seq (Code.wp_mono (fun e a w hq => ?_) (X_sound hT hm hn x s _ a w h hs))
 cases e with
 | normal => obtain ⟨s', ⟨i, hJ, hl⟩, hs'⟩ := hq; exact (h2 i hJ).ok hT hm r hn a w (LE_sound hn hl hs')
 | exit id => exact hq
 | goto l => exact hq
 | ret => exact hq
 | panic ch => exact hq
 | outgrown => exact hq⟩
def rdO (d : TD) (cs : List C) : Option A := bif Nat.ble d.size cs.length then (bif d.agg then some (.st (cs.take d.size)) else match cs with | x :: _ => some (.c x) | [] => none) else none
def resC (tab : Nat → Option TD) (s : St) : List ResultVar → Option (List A)
 | [] => some []
 | .tmp t :: r => (resC tab s r).map ((lk s.env t).getD .undef :: ·)
 | .cell x t :: r => match lk s.env x, tab t with
  | some (.c (.ptr j o)), some d => match s.ah[j]? with
   | some (.box cs _) => match rdO d (cs.drop o), resC tab s r with
    | some y, some ys => some (y :: ys)
    | _, _ => none
   | _ => none
  | _, _ => none
def comp : A → Option (Bool × List C)
 | .c x => some (false, [x])
 | .st cs => some (true, cs)
 | _ => none
def comps : List A → Option (List (Bool × List C))
 | [] => some []
 | x :: r => match comp x, comps r with
  | some y, some ys => some (y :: ys)
  | _, _ => none
def resA : List A → Option A
 | [x] => some x
 | xs => (comps xs).map .tup
def RetOK (c : Cfg) (fn : Func) (Q : Out → List B → Prop) (s : St) : Prop := match resC c.tab s fn.results.toList with
 | some xs => match resA xs with
  | some x0 => foA x0 fun x0 => foBs s.ah fun ah => ∃ js ρ x tah, lex c.n0 js ρ ah x0 x tah ∧ (cleanA x && tah.all cleanBlk) = true ∧ Q (.ret x) tah
  | none => False
 | none => False
def PanOK (c : Cfg) (Q : Out → List B → Prop) (x0 : A) (s : St) : Prop := ∃ js ρ x tah, lex c.n0 js ρ s.ah x0 x tah ∧ (cleanA x && tah.all cleanBlk) = true ∧ Q (.pan x) tah
def Kf (c : Cfg) (fn : Func) (Q : Out → List B → Prop) : XE → St → Prop
 | .normal, s => RetOK c fn Q s
 | .ret, s => RetOK c fn Q s
 | .pan x, s => PanOK c Q x s
 | .exit _, _ => False
def argE : Nat → List A → List (Nat × A)
 | _, [] => []
 | i, x :: r => (i, x) :: argE (i + 1) r
theorem comps_sound {F : Nat → Prop} {H : Heap} {m : Md} : ∀ {xs : List A} {ts : List (Bool × List C)} {vs : List Value}, comps xs = some ts → RAs F H m xs vs → RT F H m ts vs
 | [], ts, [], h, _ => by cases h; trivial
 | x :: xs, ts, v :: vs, h, ⟨h1, h2⟩ => by
  unfold comps at h
  split at h
  ·rename_i y ys hy hys
   cases h
   have := comps_sound hys h2
   cases x with
   | c z => cases hy; exact ⟨⟨[v], h1, rfl, fun _ => rfl⟩, this⟩
   | st cs => cases hy; obtain ⟨us, rfl, h3⟩ := h1; exact ⟨⟨us, h3, rfl, fun h => by cases h⟩, this⟩
   | _ => cases hy
  ·cases h
theorem rdO_sound {P : Program} {tab : Nat → Option TD} {F : Nat → Prop} {w : World} {m : Md} (hT : TabOk P tab) {t : Nat} {d : TD} (ht : tab t = some d) {cs : List C} {vs : List Value} {b off : Nat} (hr : RL F w.heap m cs vs)
  (hc : ∀ j u, vs[j]? = some u → cell w.heap b (off + j) = some u) {x : A} (h : rdO d cs = some x) : ∃ v, RA F w.heap m x v ∧ (loadVar t ⟨b, off, none⟩).run P w = .ok v w := by
 unfold rdO at h
 have hl := hr.length
 by_cases hle : Nat.ble d.size cs.length = true
 ·rw [hle, cond_true] at h
  have hle := Nat.le_of_ble_eq_true hle
  have hag := hT.agg t d ht w
  cases ha : d.agg with
  | true =>
   rw [ha, cond_true] at h
   cases h
   refine ⟨_, ⟨_, rfl, hr.take _⟩, ?_⟩
   have hlen : (vs.take d.size).length = d.size := by rw [List.length_take]; omega
   have := run_loadCells_list (P := P) (w := w) ⟨b, off, none⟩ (vs.take d.size) (fun j v hj => by
    rw [Addr.add_lit, cell?_of rfl]
    rw [List.getElem?_take] at hj
    split at hj
    ·exact hc j v hj
    ·cases hj)
   rw [hlen] at this
   rw [ha] at hag
   simp [loadVar, hag, hT.size ht w, this]
  | false =>
   rw [ha, cond_false] at h
   split at h
   ·cases h
    obtain ⟨v, us, rfl, h2, h3⟩ := hr.uncons
    refine ⟨v, h2, ?_⟩
    rw [ha] at hag
    have := hc 0 v rfl
    rw [Nat.add_zero] at this
    simp [loadVar, hag, cell?_of rfl, this]
   ·cases h
 ·rw [Bool.not_eq_true] at hle; rw [hle] at h; cases h
def resOne (tmps : Array Value) : ResultVar → Sem Value
 | .tmp t => pure (tmps.getD t undef)
 | .cell a t => do loadVar t (← asAddr (tmps.getD a undef))
theorem results_eq (fn : Func) (tmps : Array Value) : results fn tmps = (do
  let vs ← fn.results.mapM (resOne tmps)
  pure (if h : vs.size = 1 then vs[0] else .tuple vs)) := by
 unfold results
 congr 1
theorem resC_sound (hT : TabOk c.P c.tab) {F : Nat → Prop} {γ : List Value} {s : St} {a : Act} {w : World} {E : En} (hW : WR E F γ s.ah w.heap) (hE : ER F w.heap ⟨E.B, γ⟩ s.env a) : ∀ {l : List ResultVar} {xs : List A}, resC c.tab s l = some xs →
  ∃ vs, RAs F w.heap ⟨E.B, γ⟩ xs vs ∧ (l.mapM (resOne a.tmps)).run c.P w = .ok vs w
 | [], xs, h => by cases h; exact ⟨[], trivial, by simp⟩
 | .tmp t :: l, xs, h => by
  simp only [resC, Option.map_eq_some_iff] at h
  obtain ⟨ys, h1, rfl⟩ := h
  obtain ⟨vs, h2, h3⟩ := resC_sound hT hW hE h1
  refine ⟨a.tmps.getD t undef :: vs, ⟨?_, h2⟩, by simp [List.mapM_cons, h3, resOne]⟩
  cases hl : lk s.env t with
  | none => trivial
  | some x => exact hE t x hl
 | .cell x t :: l, xs, h => by
  simp only [resC] at h
  split at h
  ·rename_i _ _ j o d hx ht
   split at h
   ·rename_i cs hb
    split at h
    ·rename_i y ys hy hys
     cases h
     obtain ⟨vs, h2, h3⟩ := resC_sound hT hW hE hys
     have hp := hE x _ hx
     generalize hv : a.tmps.getD x undef = v at hp
     cases hp with
     | ptr hg _ =>
      obtain ⟨k', us, e, h4, h5⟩ := box_get (o := o) (hW.br j _ _ hb hg)
      cases e
      obtain ⟨u, h6, h7⟩ := rdO_sound hT ht h4 h5 hy
      exact ⟨u :: vs, ⟨h6, h2⟩, by simp [List.mapM_cons, h3, resOne, hv, asAddr, h7]⟩
    ·cases h
   ·cases h
  ·cases h
theorem RAs_len {F : Nat → Prop} {H : Heap} {m : Md} : ∀ {xs : List A} {vs : List Value}, RAs F H m xs vs → xs.length = vs.length
 | [], [], _ => rfl
 | _ :: _, _ :: _, ⟨_, h⟩ => by simp [RAs_len h]
theorem argE_sound {F : Nat → Prop} {H : Heap} {m : Md} {a : Act} : ∀ {xs : List A} {vs : List Value} {i : Nat}, RAs F H m xs vs → (∀ q v, vs[q]? = some v → a.tmps.getD (i + q) undef = v) → ER F H m (argE i xs) a
 | [], [], i, _, _ => fun t x h => by cases h
 | x :: xs, v :: vs, i, ⟨h1, h2⟩, hv => fun t y hl => by
  unfold argE lk at hl
  by_cases e : Nat.beq i t = true
  ·rw [e] at hl
   cases hl
   obtain rfl := Nat.eq_of_beq_eq_true e
   have := hv 0 v rfl
   rw [Nat.add_zero] at this
   rw [this]; exact h1
  ·rw [Bool.not_eq_true] at e
   rw [e] at hl
   exact argE_sound h2 (fun q u hq => by have := hv (q + 1) u (by simpa using hq); rw [show i + 1 + q = i + (q + 1) by omega]; exact this) t y hl
def bndC : C → Prop
 | .str l => l.length ≤ 9223372036854775807
 | .ls _ _ _ l => l.length ≤ 9223372036854775807
 | .bs _ _ _ l => l.length ≤ 9223372036854775807
 | _ => True
def bndCs : List C → Prop
 | [] => True
 | c :: cs => bndC c ∧ bndCs cs
def bndA : A → Prop
 | .c x => bndC x
 | .st cs => bndCs cs
 | _ => True
def bndAs : List A → Prop
 | [] => True
 | a :: r => bndA a ∧ bndAs r
def bndB : List B → Prop
 | [] => True
 | .box cs _ :: r => bndCs cs ∧ bndB r
 | .row _ _ _ l :: r => l.length ≤ 9223372036854775807 ∧ bndB r
 | .fro _ _ _ l :: r => l.length ≤ 9223372036854775807 ∧ bndB r
 | .buf _ _ _ _ l :: r => l.length ≤ 9223372036854775807 ∧ bndB r
 | .dead :: r => bndB r
theorem SV.len_le {F : Nat → Prop} {H : Heap} {L : LS} {v : Value} (h : SV F H L v) : L.l.length ≤ 9223372036854775807 := by
 rcases h with ⟨p, hv, hl⟩ | ⟨b, off, cap, css, hv, g1, g2, _⟩
 ·rw [hl]; simp
 ·have g2 : cap ≤ 9223372036854775807 := g2
  omega
theorem bndC_of {F : Nat → Prop} {H : Heap} {m : Md} {x : C} {v : Value} (h : RL F H m [x] [v]) : bndC x := by
 cases h with
 | str h _ => exact h
 | ls0 _ => exact Nat.zero_le _
 | bs0 _ => exact Nat.zero_le _
 | ls _ h1 h2 _ _ _ _ => exact Nat.le_trans h1 h2
 | bs _ h1 h2 _ _ _ _ => exact Nat.le_trans h1 h2
 | _ => trivial
theorem bndCs_of {F : Nat → Prop} {H : Heap} {m : Md} : ∀ {cs : List C} {vs : List Value}, RL F H m cs vs → bndCs cs
 | [], _, _ => trivial
 | c :: cs, vs, h => by
  obtain ⟨v, us, rfl, h1, h2⟩ := h.uncons
  exact ⟨bndC_of h1, bndCs_of h2⟩
theorem bndAs_of {F : Nat → Prop} {H : Heap} {m : Md} : ∀ {as : List A} {vs : List Value}, RAs F H m as vs → bndAs as
 | [], _, _ => trivial
 | a :: as, [], h => h.elim
 | a :: as, v :: vs, ⟨h1, h2⟩ => by
  refine ⟨?_, bndAs_of h2⟩
  cases a with
  | c x => exact bndC_of h1
  | st cs => obtain ⟨us, _, h⟩ := h1; exact bndCs_of h
  | _ => trivial
theorem bndB_of {F : Nat → Prop} {H : Heap} {m : Md} : ∀ {ah : List B} {γ : List Value}, ah.length = γ.length → (∀ (j : Nat) (b : B) (g : Value), ah[j]? = some b → γ[j]? = some g → BR F H m b g) → bndB ah
 | [], _, _, _ => trivial
 | b :: r, [], h, _ => by cases h
 | b :: r, g :: γ, hl, h => by
  have hb := h 0 b g rfl rfl
  have hr := bndB_of (ah := r) (γ := γ) (by simpa using hl) (fun (j : Nat) (b : B) (g : Value) h1 h2 => h (j + 1) b g (by simpa using h1) (by simpa using h2))
  cases b with
  | box cs ty => obtain ⟨k, e, vs, _, _, h3⟩ := hb; exact ⟨bndCs_of h3, hr⟩
  | row sz α enc l => exact ⟨(row_sv hb (L := ⟨sz, α, enc, l⟩) rfl).len_le, hr⟩
  | fro sz α enc l => exact ⟨(row_sv hb (L := ⟨sz, α, enc, l⟩) rfl).len_le, hr⟩
  | buf t sz α enc l =>
   refine ⟨?_, hr⟩
   rcases hb with ⟨_, _, h⟩ | ⟨_, _, _, _, _, _, h2, h3, _⟩
   ·rw [h]; simp
   ·exact Nat.le_trans h2 h3
  | dead => exact hr
theorem ret_sound (hT : TabOk c.P c.tab) {fn : Func} {Q : Out → List B → Prop} {F L : Nat → Prop} {γ : List Value} {ah : List B} {H : Heap} (hn' : (en F L γ ah H).γ0.length = c.n0) {s : St} {a : Act} {w' : World} {F1 : Nat → Prop} {γ1 : List Value} (hr : RetOK c fn Q s) (hW1 : WR (en F L γ ah H) F1 γ1 s.ah w'.heap) (hE1 : ER F1 w'.heap ⟨L, γ1⟩ s.env a) :
  ∃ v, (results fn a.tmps).run c.P w' = .ok v w' ∧ Behind F L γ ah H Q true v w'.heap := by
 unfold RetOK at hr
 split at hr
 ·rename_i xs hxs
  split at hr
  ·rename_i x0 hx0
   obtain ⟨js, ρ, x, tah, hle, hcl, hQ⟩ := foBs_eq (foA_eq hr)
   obtain ⟨us, h4, h5⟩ := resC_sound hT hW1 hE1 hxs
   have hres : ∃ v, (results fn a.tmps).run c.P w' = .ok v w' ∧ RA F1 w'.heap ⟨L, γ1⟩ x0 v := by
    have hrun : (fn.results.mapM (resOne a.tmps)).run c.P w' = .ok us.toArray w' := by
     rw [Array.mapM_eq_mapM_toList]
     simp [h5]
    have hll := RAs_len h4
    rw [results_eq]
    simp only [Sem.run_bind, hrun, Result.andThen_ok]
    by_cases h6 : us.length = 1
    ·obtain ⟨u, rfl⟩ := List.length_eq_one_iff.1 h6
     obtain ⟨x1, rfl⟩ := List.length_eq_one_iff.1 (hll.trans h6)
     cases hx0
     exact ⟨u, rfl, h4.1⟩
    ·refine ⟨.tuple us.toArray, ?_, ?_⟩
     ·rw [dif_neg (by simpa using h6)]; rfl
     ·have hx0' : (comps xs).map A.tup = some x0 := by
       unfold resA at hx0
       split at hx0
       ·simp at hll; omega
       ·exact hx0
      obtain ⟨ts, h7, rfl⟩ := Option.map_eq_some_iff.1 hx0'
      exact ⟨us, rfl, comps_sound h7 h4⟩
   obtain ⟨v, hv1, hv2⟩ := hres
   obtain ⟨F2, γ2, h7, h8⟩ := lex_sound hn' hW1 hv2 hle
   rw [Bool.and_eq_true] at hcl
   exact ⟨v, hv1, _, tah, F2, γ2, hQ, hcl.1, hcl.2, rfl, h8, h7⟩
  ·exact hr.elim
 ·exact hr.elim
theorem X_specM (c : Cfg) (hT : TabOk c.P c.tab) (hm : c.P.follows .mixedOrders = true) {f : FuncId} {fn : Func} {code : Code} {args : List A} {ah : List B} {Q : Out → List B → Prop} (hcall : ∀ args w, (callFunc f args).run c.P w = .ok (.enter f args) w)
  (hf : c.P.funcs[f]? = some fn) (hb : fn.body = some code) (hn : fn.ntmps = c.n) (hl : Nat.ble args.length c.n = true) (hn0 : ah.length = c.n0) (h : bndAs args ∧ bndB ah → XM c code ⟨argE 0 args, ah⟩ (Kf c fn Q)) : DoesD c.d c.P f args ah Q := by
 intro F L γ H vs hargs hW w hw
 have h := h ⟨bndAs_of hargs, bndB_of hW.len.symm (fun j b g h1 h2 => hW.br j b g h1 h2)⟩
 subst hw
 rw [hcall]
 refine ⟨rfl, calls_of_wp hf hb ?_⟩
 have hlen := RAs_len hargs
 have hl := Nat.le_of_ble_eq_true hl
 have hn' : (en F L γ ah w.heap).γ0.length = c.n0 := by rw [← hn0]; exact hW.len
 refine Code.wp_mono (Q := Qk c ⟨en F L γ ah w.heap, [], w⟩ (Kf c fn Q)) (fun e a w' hq => ?_) (h.ok hT hm ⟨en F L γ ah w.heap, [], w⟩ hn' _ w ⟨F, γ, ?_, rfl, AmbD.refl _, hW, ?_, trivial⟩)
 ·have ret : (∃ s, RetOK c fn Q s ∧ SR c ⟨en F L γ ah w.heap, [], w⟩ s .undef undef a w') → a.defers = [] ∧ ∃ v, (results fn a.tmps).run c.P w' = .ok v w' ∧ ((∃ v', Ending.returned v = .returned v' ∧ Behind F L γ ah w.heap Q true v' w'.heap ∧ AmbD c.d w w') ∨ (∃ v', Ending.returned v = .panicked [{ v := v', recovered := false }] ∧ Behind F L γ ah w.heap Q false v' w'.heap ∧ AmbD c.d w w')) := by
   rintro ⟨s, hr, F1, γ1, h1, h2, h3, hW1, hE1, _⟩
   obtain ⟨v, hv, hb⟩ := ret_sound hT hn' hr hW1 hE1
   exact ⟨h2, v, hv, .inl ⟨v, rfl, hb, h3⟩⟩
  cases e with
  | normal => exact ret hq
  | ret => exact ret hq
  | exit id => obtain ⟨s, h, _⟩ := hq; exact h.elim
  | goto l => exact hq.elim
  | outgrown => exact hq.elim
  | panic ch =>
   obtain ⟨v, x0, s1, rfl, ⟨js, ρ, x, tah, hle, hcl, hQ⟩, F1, γ1, h1, h2, h3, hW1, hE1, hx⟩ := hq
   obtain ⟨F2, γ2, h7, h8⟩ := lex_sound hn' hW1 hx hle
   rw [Bool.and_eq_true] at hcl
   exact ⟨h2, .inr ⟨v, rfl, ⟨_, tah, F2, γ2, hQ, hcl.1, hcl.2, rfl, h8, h7⟩, h3⟩⟩
 ·simp [hn]; omega
 ·refine argE_sound hargs fun q v hq => ?_
  have hlt := (List.getElem?_eq_some_iff.1 hq).1
  rw [Nat.zero_add]
  simp only [Array.getD_eq_getD_getElem?]
  rw [Array.getElem?_append_left (by simpa using hlt)]
  simp [hq]
theorem X_spec {n n0 : Nat} {d : Bool} {P : Program} {tab : Nat → Option TD} (hT : TabOk P tab) {f : FuncId} {fn : Func} {code : Code} {args : List A} {ah : List B} {Q : Out → List B → Prop} (hcall : ∀ args w, (callFunc f args).run P w = .ok (.enter f args) w)
  (hf : P.funcs[f]? = some fn) (h : bndAs args ∧ bndB ah → X ⟨P, tab, n, n0, d⟩ code ⟨argE 0 args, ah⟩ (Kf ⟨P, tab, n, n0, d⟩ fn Q)) (hm : P.follows .mixedOrders = true := by kernel_rfl) (hb : fn.body = some code := by rfl) (hn : fn.ntmps = n := by rfl) (hl : Nat.ble args.length n = true := by kernel_rfl) (hn0 : ah.length = n0 := by rfl) : DoesD d P f args ah Q :=
 X_specM ⟨P, tab, n, n0, d⟩ hT hm hcall hf hb hn hl hn0 fun hb => XM.of (h hb)
theorem X_spM {n n0 : Nat} {d : Bool} {P : Program} {tab : Nat → Option TD} (hT : TabOk P tab) {f : FuncId} {fn : Func} {code : Code} {args : List A} {ah : List B} {Q : Out → List B → Prop} (hcall : ∀ args w, (callFunc f args).run P w = .ok (.enter f args) w)
  (hf : P.funcs[f]? = some fn) (h : bndAs args ∧ bndB ah → XM ⟨P, tab, n, n0, d⟩ code ⟨argE 0 args, ah⟩ (Kf ⟨P, tab, n, n0, d⟩ fn Q)) (hm : P.follows .mixedOrders = true := by kernel_rfl) (hb : fn.body = some code := by rfl) (hn : fn.ntmps = n := by rfl) (hl : Nat.ble args.length n = true := by kernel_rfl) (hn0 : ah.length = n0 := by rfl) : DoesD d P f args ah Q :=
 X_specM ⟨P, tab, n, n0, d⟩ hT hm hcall hf hb hn hl hn0 h
end
end Go.AM
end
/- part -/
section
namespace Go.AM
open Go Go.NB
def lkT : List (Nat × TD) → Nat → Option TD
 | [], _ => none
 | (t, d) :: r, s => bif Nat.beq t s then some d else lkT r s
structure Good (P : Program) (tab : Nat → Option TD) (t : Nat) (d : TD) : Prop where
 info : ∃ i z zs, (∀ w, (typeInfo t).run P w = .ok i w) ∧ i.size = d.size ∧ i.bytes = d.bytes ∧ i.zero = some z ∧ z.cells = List.toArray zs ∧ ∀ F H m, RL F H m d.zero zs
 agg : ∀ w, (isAgg t).run P w = .ok d.agg w
 one : d.agg = false → d.size = 1
 zl : d.zero.length = d.size
 kind : KOk P tab t d.kind
 cmp : d.cmp = true → CmpOk P t d.zero
def AllG (P : Program) (tab : Nat → Option TD) : List (Nat × TD) → Prop
 | [] => True
 | (t, d) :: r => Good P tab t d ∧ AllG P tab r
theorem AllG.get {P : Program} {tab : Nat → Option TD} : ∀ {l : List (Nat × TD)} {t : Nat} {d : TD}, AllG P tab l → lkT l t = some d → Good P tab t d
 | (t, d) :: r, s, d', ⟨h1, h2⟩, h => by
  unfold lkT at h
  by_cases e : Nat.beq t s = true
  ·rw [e] at h
   cases h
   obtain rfl := Nat.eq_of_beq_eq_true e
   exact h1
  ·rw [Bool.not_eq_true] at e
   rw [e] at h
   exact h2.get h
theorem tabOk_of {P : Program} {l : List (Nat × TD)} (h : AllG P (lkT l) l) : TabOk P (lkT l) :=
 ⟨fun _ _ ht => (h.get ht).info, fun _ _ ht => (h.get ht).agg, fun _ _ ht => (h.get ht).one, fun _ _ ht => (h.get ht).zl, fun _ _ ht => (h.get ht).kind, fun _ _ ht => (h.get ht).cmp⟩
theorem dec {P A' B' : Prop} {i : Decidable P} (h1 : P → A') (h2 : ¬ P → B') : @Bool.rec (fun _ => Prop) B' A' (decide P) := by
 by_cases h : P
 ·rw [decide_eq_true h]; exact h1 h
 ·rw [decide_eq_false h]; exact h2 h
theorem decN {P A' B' : Prop} {i : Decidable P} (h1 : ¬ P → A') (h2 : P → B') : @Bool.rec (fun _ => Prop) B' A' (!decide P) := by
 by_cases h : P
 ·rw [decide_eq_true h]; exact h2 h
 ·rw [decide_eq_false h]; exact h1 h
theorem boo {b : Bool} {A' B' : Prop} (h1 : b = true → A') (h2 : b = false → B') : @Bool.rec (fun _ => Prop) B' A' b := by
 cases b
 ·exact h2 rfl
 ·exact h1 rfl
theorem booN {b : Bool} {A' B' : Prop} (h1 : b = false → A') (h2 : b = true → B') : @Bool.rec (fun _ => Prop) B' A' (!b) := by
 cases b
 ·exact h1 rfl
 ·exact h2 rfl
def encI (n : Int) : List C := [.int .i64 n]
def encS (l : List UInt8) : List C := [.str l]
def encBo (b : Bool) : List C := [.bool b]
def encL {α : Type} (sz : Nat) (enc : α → List C) (l : List α) : List C := [.ls sz α enc l]
end Go.AM
end
/- part -/
section
namespace Go.AM
open Go Go.NB
def Rt (x : A) (ah : List B) (o : Out) (ah' : List B) : Prop := o = .ret x ∧ ah' = ah
theorem I6 {n : Int} {p : Prop} (h : p) (h1 : -9223372036854775808 ≤ n := by omega) (h2 : n ≤ 9223372036854775807 := by omega) : I64 n ∧ p := ⟨⟨h1, h2⟩, h⟩
theorem i64 {n : Int} (h1 : -9223372036854775808 ≤ n) (h2 : n ≤ 9223372036854775807) : I64 n := ⟨h1, h2⟩
theorem rtC {ah : List B} {x0 X : C} (h : x0 = X) (hc : closed1 X = true) : ∃ js ρ x tah, lex 0 js ρ ah (.c x0) x tah ∧ (cleanA x && tah.all cleanBlk) = true ∧ Rt (.c X) [] (.ret x) tah := by
 subst h
 refine ⟨[], [], .c x0, [], ?_, ?_, rfl, rfl⟩
 ·refine And.intro ?_ trivial
  cases x0 <;> first | rfl | cases hc
 ·cases x0 <;> first | rfl | cases hc
theorem rtB {ah : List B} {b b' : Bool} (h : b = b') : ∃ js ρ x tah, lex 0 js ρ ah (.c (.bool b)) x tah ∧ (cleanA x && tah.all cleanBlk) = true ∧ Rt (.c (.bool b')) [] (.ret x) tah := rtC (congrArg C.bool h) rfl
theorem rtI {ah : List B} {n n' : Int} (h : n = n') : ∃ js ρ x tah, lex 0 js ρ ah (.c (.int .i64 n)) x tah ∧ (cleanA x && tah.all cleanBlk) = true ∧ Rt (.c (.int .i64 n')) [] (.ret x) tah := rtC (congrArg (C.int .i64) h) rfl
theorem rt {Q : Out → List B → Prop} {n0 : Nat} {ah : List B} {x0 X : A} {Y : List B} (js : List Nat) (ρ : List Rn) (h : lex n0 js ρ ah x0 X Y) (hc : (cleanA X && Y.all cleanBlk) = true) (hQ : Q (.ret X) Y) : ∃ js ρ x tah, lex n0 js ρ ah x0 x tah ∧ (cleanA x && tah.all cleanBlk) = true ∧ Q (.ret x) tah :=
 ⟨js, ρ, X, Y, h, hc, hQ⟩
theorem cl {d : Bool} {P : Program} {f : FuncId} {ah : List B} {env : List (Nat × A)} {args : List A} {g : G} {k : List B → A → Prop} {kp : A → St → Prop} {targs : List A} {tah Y : List B} {X : A} (js m : List Nat) (hs : DoesD d P f targs tah (Rt X Y))
  (hk : ap2 k (mrg m tah (frz js ah) Y) (renA (sig m (frz js ah).length) X)) (hok : CallOk (frz js ah) m args targs tah := by (repeat' first | exact trivial | exact rfl | refine And.intro ?_ ?_); first | done | fail) (hg : g.call m = true := by rfl) :
  ∃ (js m : List Nat) (targs : List A) (tah : List B) (Q : Out → List B → Prop), DoesD d P f targs tah Q ∧ CallOk (frz js ah) m args targs tah ∧ g.call m = true ∧
   ∀ out ah', Q out ah' → match out with
    | .ret a => ap2 k (mrg m tah (frz js ah) ah') (renA (sig m (frz js ah).length) a)
    | .pan a => ap2 kp (renA (sig m (frz js ah).length) a) ⟨env, mrg m tah (frz js ah) ah'⟩ :=
 ⟨js, m, targs, tah, _, hs, hok, hg, fun out ah' ⟨h1, h2⟩ => by subst h1; subst h2; exact hk⟩
theorem rx {n0 : Nat} {ah : List B} {x0 X : A} {Y : List B} (js : List Nat) (ρ : List Rn) (h : lex n0 js ρ ah x0 X Y := by repeat' first | exact trivial | exact rfl | refine And.intro ?_ ?_) (hc : (cleanA X && Y.all cleanBlk) = true := by rfl) : ∃ js ρ x tah, lex n0 js ρ ah x0 x tah ∧ (cleanA x && tah.all cleanBlk) = true ∧ Rt X Y (.ret x) tah :=
 ⟨js, ρ, X, Y, h, hc, rfl, rfl⟩
theorem lp {n0 : Nat} {s0 : St} {R : ∀ (ι : Type) (I : ι → St) (inv : ι → Prop) (m : ι → Nat), ι → Prop} (ι : Type) (I : ι → St) (inv : ι → Prop) (m : ι → Nat) (y : ι) (js : List Nat) (ρ : List Rn) (h1 : inv y) (h2 : le n0 js ρ s0 (I y)) (h3 : ∀ x, inv x → R ι I inv m x) :
  ∃ (ι : Type) (I : ι → St) (inv : ι → Prop) (m : ι → Nat), (∃ y, inv y ∧ LE n0 s0 (I y)) ∧ ∀ x, inv x → R ι I inv m x :=
 ⟨ι, I, inv, m, ⟨y, h1, js, ρ, h2⟩, h3⟩
theorem ag {ι : Type} {n0 : Nat} {I : ι → St} {inv : ι → Prop} {m : ι → Nat} {lt : Nat} {s : St} (y : ι) (js : List Nat) (ρ : List Rn) (h1 : inv y) (h2 : m y < lt) (h3 : le n0 js ρ s (I y)) : ∃ y, (inv y ∧ m y < lt) ∧ LE n0 s (I y) := ⟨y, ⟨h1, h2⟩, js, ρ, h3⟩
end Go.AM
end
/- part -/
section
namespace Go.Nest
open Go Go.AM
structure Ent where
 name : List UInt8
 mode : Int
 id : Int
 repo : Int
 deriving DecidableEq
structure Ob where
 kind : Int
 bytes : List UInt8
 entries : List Ent
 tree : Int
 parents : List Int
 text : List UInt8
 deriving DecidableEq
structure Fi where
 path : List UInt8
 mode : Int
 id : Int
 repo : Int
 deriving DecidableEq
structure Ch where
 path : List UInt8
 old : Fi
 new : Fi
 deriving DecidableEq
structure Dc where
 path : List UInt8
 bytes : List UInt8
 deriving DecidableEq
structure Rf where
 name : List UInt8
 id : Int
 deriving DecidableEq
structure Mv where
 name : List UInt8
 old : Int
 new : Int
 deriving DecidableEq
structure It where
 path : List UInt8
 bytes : List UInt8
 link : Bool
 id : Int
 repo : Int
 deriving DecidableEq
def encEn (e : Ent) : List C := [.str e.name, .int .i64 e.mode, .int .i64 e.id, .int .i64 e.repo]
def encOb (o : Ob) : List C := [.int .i64 o.kind, .ls 1 UInt8 bytesC o.bytes, .ls 4 Ent encEn o.entries, .int .i64 o.tree, .ls 1 Int encI o.parents, .str o.text]
def bOb (o : Ob) : List C := [.int .i64 o.kind, .bs 1 UInt8 bytesC o.bytes, .bs 4 Ent encEn o.entries, .int .i64 o.tree, .bs 1 Int encI o.parents, .str o.text]
def encFi (f : Fi) : List C := [.str f.path, .int .i64 f.mode, .int .i64 f.id, .int .i64 f.repo]
def encCh (c : Ch) : List C := [.str c.path, .str c.old.path, .int .i64 c.old.mode, .int .i64 c.old.id, .int .i64 c.old.repo, .str c.new.path, .int .i64 c.new.mode, .int .i64 c.new.id, .int .i64 c.new.repo]
def encDc (d : Dc) : List C := [.str d.path, .ls 1 UInt8 bytesC d.bytes]
def encRf (r : Rf) : List C := [.str r.name, .int .i64 r.id]
def encMv (m : Mv) : List C := [.str m.name, .int .i64 m.old, .int .i64 m.new]
def encIt (x : It) : List C := [.str x.path, .ls 1 UInt8 bytesC x.bytes, .bool x.link, .int .i64 x.id, .int .i64 x.repo]
def encPr (p : Int × Int) : List C := [.int .i64 p.1, .int .i64 p.2]
def encTr (p : Int × Int × Int) : List C := [.int .i64 p.1, .int .i64 p.2.1, .int .i64 p.2.2]
structure Sn where
 docs : List Dc
 parents : List Int
 text : List UInt8
 deriving DecidableEq
def nl (sz : Nat) (α : Type) (enc : α → List C) : List α → C
 | [] => .nil
 | x :: l => .ls sz α enc (x :: l)
structure Dt where
 what : Int
 a : Int
 b : Int
 k : Int
 odd : Bool
 r0 : List Int
 r1 : List Int
 r2 : List Int
 r3 : List Int
structure Mt where
 k : Int
 to : Int
 repo : Int
 path : List UInt8
end Go.Nest
end
/- part -/
section

namespace Go.Nest
open Go Go.AM
structure Dp where
 own : Nat → List Bool
 bor : Nat → List Int
theorem four {i : Nat} (h : i < 4) : i = 0 ∨ i = 1 ∨ i = 2 ∨ i = 3 := by omega
def upd {α : Type} (o : Nat → α) (k : Nat) (v : α) : Nat → α := fun j => bif Nat.beq j k then v else o j
theorem upd_upd {α : Type} {o : Nat → α} {k : Nat} {v w : α} : upd (upd o k v) k w = upd o k w := by
 funext j
 unfold upd
 cases Nat.beq j k <;> rfl
end Go.Nest
end
/- part -/
section

namespace Go.Nest
open Go Go.AM
structure FS where
 L : List Ob
 o : Nat → List Bool
 b : Nat → List Int
 n : Nat → List Rf
 m : Nat → List Mv
 w : Nat → List It
 h : Nat → Int
structure Stp where
 kind : Int
 r : Int
 q : Int
 path : List UInt8
 name : List UInt8
 text : List UInt8
 bytes : List UInt8
def encStp (x : Stp) : List C := [.int .i64 x.kind, .int .i64 x.r, .int .i64 x.q, .str x.path, .str x.name, .str x.text, .ls 1 UInt8 bytesC x.bytes]
structure Evt where
 code : Int
 id : Int
 cf : List (List UInt8)
def encEvt (x : Evt) : List C := [.int .i64 x.code, .int .i64 x.id, .ls 1 (List UInt8) encS x.cf]
def evF (id c : Int) : Evt := if c ≠ 0 then ⟨c, 0, []⟩ else ⟨0, id, []⟩
def fs0 : FS := ⟨[], fun _ => [], fun _ => [], fun _ => [], fun _ => [], fun _ => [], fun _ => -1⟩
def FS.setW (s : FS) (r : Nat) (L : List Ob) (l : List It) (h : Int) : FS := { s with L := L, w := upd s.w r l, h := upd s.h r h }
def FS.setN (s : FS) (r : Nat) (l : List Rf) (m : List Mv) : FS := { s with n := upd s.n r l, m := upd s.m r m }
def FS.setO (s : FS) (o : Nat → List Bool) : FS := { s with o := o }
end Go.Nest
end
/- part -/
section

namespace Go.Nest
open Go Go.AM
theorem tw_at {α : Type} {p : α → Bool} : ∀ {l : List α} {k : Nat}, k ≤ l.length → (∀ g ∈ l.take k, p g = true) → (∀ h : k < l.length, p l[k] = false) → l.takeWhile p = l.take k ∧ l.dropWhile p = l.drop k
 | [], 0, _, _, _ => ⟨rfl, rfl⟩
 | x :: l, 0, _, _, h => by have := h (by simp); simp at this; simp [this]
 | x :: l, k + 1, hk, h1, h2 => by
  have hx := h1 x (by simp)
  obtain ⟨h3, h4⟩ := tw_at (l := l) (k := k) (by simpa using hk) (fun g hg => h1 g (by simp [hg])) (fun h => h2 (by simpa using h))
  simp [hx, h3, h4]
 | [], k + 1, h, _, _ => by simp at h
theorem rise_uniq : ∀ {a b : List Int}, a.Pairwise (· < ·) → b.Pairwise (· < ·) → (∀ x, x ∈ a ↔ x ∈ b) → a = b
 | [], [], _, _, _ => rfl
 | [], y :: b, _, _, h => by have := (h y).2 (by simp); cases this
 | x :: a, [], _, _, h => by have := (h x).1 (by simp); cases this
 | x :: a, y :: b, ha, hb, h => by
  obtain ⟨h1, h2⟩ := List.pairwise_cons.1 ha
  obtain ⟨h3, h4⟩ := List.pairwise_cons.1 hb
  have e : x = y := by
   rcases List.mem_cons.1 ((h x).1 (by simp)) with e | hx
   ·exact e
   rcases List.mem_cons.1 ((h y).2 (by simp)) with e | hy
   ·exact e.symm
   have := h1 y hy; have := h3 x hx; omega
  subst e
  congr 1
  refine rise_uniq h2 h4 fun z => ⟨fun hz => ?_, fun hz => ?_⟩
  ·rcases List.mem_cons.1 ((h z).1 (by simp [hz])) with rfl | h5
   ·have := h1 _ hz; omega
   ·exact h5
  ·rcases List.mem_cons.1 ((h z).2 (by simp [hz])) with rfl | h5
   ·have := h3 _ hz; omega
   ·exact h5
end Go.Nest
end
/- part -/
section
namespace Go.AM
open Go Go.NB
theorem DoesD.frame {d : Bool} {P : Program} {f : FuncId} {targs args : List A} {tah Y ah Z Y' : List B} {X W X' : A} (m : List Nat) (ρ : List Rn) (hs : DoesD d P f targs tah (Rt X Y)) (hok : CallOk ah m args targs tah)
  (hZ : mrg m tah ah Y = Z) (hW : renA (sig m ah.length) X = W) (hle : lex ah.length [] ρ Z W X' Y') (hcl : (cleanA X' && Y'.all cleanBlk) = true) : DoesD d P f args ah (Rt X' Y') := by
 intro F L γ H vs hargs hR
 obtain ⟨hchk, hma, hmb⟩ := bguard hok
 simp only [Bool.and_eq_true, List.all_eq_true] at hchk
 obtain ⟨⟨hnd, hlt⟩, hnu⟩ := hchk
 have hlt' : ∀ j ∈ m, j < ah.length := fun j hj => Nat.le_of_ble_eq_true (hlt j hj)
 have hcore := core hR hmb hnu frOf_spec
 have hargs' := mAs_sound (B' := lent (en F L γ ah H) γ ah (frOf m tah)) hR (fun _ h => .inl h) (fun j b g h1 h2 h3 k hk => .inr ⟨j, b, g, h2, h3, h1, hk⟩) hma hargs
 have hWc : WR (en F (lent (en F L γ ah H) γ ah (frOf m tah)) ((samesR m).map (gOf γ)) tah H) F ((samesR m).map (gOf γ)) tah H := by
  refine ⟨hcore.len, hcore.br, hcore.disj, fun j b g k h1 h2 h3 => (hcore.nf j b g k h1 h2 h3).1, hR.fb, fun k hk => ⟨?_, fun ⟨j, b, g, h1, h2, h3⟩ => (hcore.nf j b g k h1 h2 h3).1.2 hk⟩, Nat.le_refl _, fun _ _ _ => rfl, fun _ h => h, fun _ h => .inl h, fun j b g k h1 h2 h3 => .inl ⟨j, b, g, h1, h2, h3⟩, fun _ _ h => h⟩
  rcases hk with hk | ⟨j, b, g, h1, h2, _, h3⟩
  ·exact Nat.lt_of_lt_of_le (hR.bb k hk).1 hR.size
  ·exact obv_lt (hR.br _ _ _ h1 h2) k h3
 refine (hs F _ _ H _ hargs' hWc).mono fun ok v H' hb => ?_
 obtain ⟨out, ah', F', γ', ⟨rfl, rfl⟩, hca, hcb, hok, hra, hWR⟩ := hb
 obtain ⟨m1, m2, m3, m4, m5⟩ := merge hR hmb (nodupB_spec hnd) hlt' hcore hWR hcb
 have hra' : RA F' H' ⟨L, γ ++ γ'.drop m.length⟩ (renA (sig m ah.length) X) v := renA_sound m3 hra hca
 rw [hZ] at m1
 rw [hW] at hra'
 obtain ⟨F2, γ2, h7, h8⟩ := lex_sound (c := ⟨P, fun _ => none, 0, ah.length, d⟩) (E := en F L γ ah H) hR.len m1 hra' hle
 rw [Bool.and_eq_true] at hcl
 exact ⟨.ret X', Y', F2, γ2, ⟨rfl, rfl⟩, hcl.1, hcl.2, hok, h8, h7⟩
def sgR (ρ : List Rn) (j : Nat) : Nat := match ρ[j]? with
 | some (.same k) => k
 | _ => 0
def isSm : Option Rn → Bool
 | some (.same _) => true
 | _ => false
def chkC (ρ : List Rn) : C → Bool
 | .rw i => isSm ρ[i]?
 | .ptr i _ => isSm ρ[i]?
 | .sw _ i _ _ => isSm ρ[i]?
 | .int _ _ => true
 | .bool _ => true
 | .str _ => true
 | .raw _ => true
 | .nil => true
 | .ls .. => true
 | _ => false
def chkB (ρ : List Rn) (r : Rn) (b : B) : Bool := match b with
 | .dead => true
 | .box cs _ => isSm (some r) && cs.all (chkC ρ)
 | _ => isSm (some r)
def chkBs (ρ : List Rn) : List Rn → List B → Bool
 | [], [] => true
 | r :: rs, b :: bs => chkB ρ r b && chkBs ρ rs bs
 | _, _ => false
def sel1 (ah : List B) (r : Rn) (b : B) : B := match b with
 | .dead => .dead
 | _ => match r with
  | .same j => (ah[j]?).getD .dead
  | _ => .dead
def selB (ah : List B) : List Rn → List B → List B
 | r :: rs, b :: bs => sel1 ah r b :: selB ah rs bs
 | _, _ => []
section
variable {fr : Nat → Bool} {ah : List B} {ρ : List Rn}
theorem isSm_at {r : Option Rn} (h : isSm r = true) : ∃ k, r = some (.same k) := by
 cases r with
 | none => cases h
 | some r => cases r with
  | same k => exact ⟨k, rfl⟩
  | _ => cases h
theorem mC_same {n : Nat} {c : C} (h : chkC ρ c = true) : mC fr ah (n + 1) ρ (ren1 (sgR ρ) c) c := by
 cases c with
 | rw i => obtain ⟨k, e⟩ := isSm_at h; simp only [mC, ren1, sgR, e]
 | ptr i o => obtain ⟨k, e⟩ := isSm_at h; simp only [mC, ren1, sgR, e]
 | sw sz i lo m => obtain ⟨k, e⟩ := isSm_at h; simp only [mC, ren1, sgR, e]
 | int _ _ => rfl
 | bool _ => rfl
 | str _ => rfl
 | raw _ => rfl
 | nil => rfl
 | ls _ _ _ _ => rfl
 | _ => cases h
theorem all2_same : ∀ {cs : List C}, cs.all (chkC ρ) = true → all2 (mC fr ah 5 ρ) (cs.map (ren1 (sgR ρ))) cs
 | [], _ => trivial
 | c :: cs, h => by
  rw [List.all_cons, Bool.and_eq_true] at h
  exact ⟨mC_same h.1, all2_same h.2⟩
theorem tyLe_refl (t : Option Nat) : tyLe t t := by cases t <;> first | trivial | rfl
theorem some_of {j : Nat} {b : B} (h : (ah[j]?).getD .dead = b) (hb : b ≠ .dead) : ah[j]? = some b := by
 cases e : ah[j]? with
 | none => rw [e] at h; exact absurd h.symm hb
 | some x => rw [e] at h; exact congrArg some h
theorem mB_same {r : Rn} {b : B} (h : chkB ρ r b = true) (he : sel1 ah r b = renB (sgR ρ) b) : mB fr ah ρ r b := by
 cases b with
 | dead => trivial
 | box cs t =>
  have h : (isSm (some r) && cs.all (chkC ρ)) = true := h
  rw [Bool.and_eq_true] at h
  obtain ⟨k, e⟩ := isSm_at h.1
  obtain rfl : r = .same k := by simpa using e
  have hk := some_of (b := renB (sgR ρ) (.box cs t)) he (by intro h; cases h)
  simp only [mB, hk, renB]
  exact ⟨tyLe_refl t, all2_same h.2⟩
 | row sz α enc l =>
  obtain ⟨k, e⟩ := isSm_at (show isSm (some r) = true from h)
  obtain rfl : r = .same k := by simpa using e
  have hk := some_of (b := .row sz α enc l) he (by intro h; cases h)
  simp only [mB, hk]
 | fro sz α enc l =>
  obtain ⟨k, e⟩ := isSm_at (show isSm (some r) = true from h)
  obtain rfl : r = .same k := by simpa using e
  have hk := some_of (b := .fro sz α enc l) he (by intro h; cases h)
  simp only [mB, hk]
 | buf t sz α enc l =>
  obtain ⟨k, e⟩ := isSm_at (show isSm (some r) = true from h)
  obtain rfl : r = .same k := by simpa using e
  have hk := some_of (b := .buf t sz α enc l) he (by intro h; cases h)
  simp only [mB, hk, and_self]
theorem mBs_same : ∀ {rs : List Rn} {bs : List B}, chkBs ρ rs bs = true → selB ah rs bs = bs.map (renB (sgR ρ)) → mBs fr ah ρ rs bs
 | [], [], _, _ => trivial
 | r :: rs, b :: bs, h, e => by
  have h : (chkB ρ r b && chkBs ρ rs bs) = true := h
  rw [Bool.and_eq_true] at h
  simp only [selB, List.map_cons, List.cons.injEq] at e
  exact ⟨mB_same h.1 e.1, mBs_same h.2 e.2⟩
 | [], _ :: _, h, _ => by cases h
 | _ :: _, [], h, _ => by cases h
end
theorem callOk_of {ah tah : List B} {m : List Nat} {args targs : List A} (ha : mAs (frOf m tah) ah (samesR m) args targs) (h1 : (nodupB m && m.all (fun j => Nat.blt j ah.length) && nodupB (usedOf (samesR m) tah)) = true := by kernel_rfl)
  (h2 : chkBs (samesR m) (samesR m) tah = true := by kernel_rfl) (h3 : selB ah (samesR m) tah = tah.map (renB (sgR (samesR m))) := by kernel_rfl) : CallOk ah m args targs tah := by
 unfold CallOk
 rw [h1]
 exact ⟨ha, mBs_same h2 h3⟩
theorem lex_of {n0 : Nat} {ρ : List Rn} {ah tah : List B} {x0 x : A} (ha : mA (fun _ => false) ah ρ x0 x) (h1 : (idB 0 ρ n0 && nodupB (usedOf ρ tah)) = true := by kernel_rfl)
  (h2 : chkBs ρ ρ tah = true := by kernel_rfl) (h3 : selB ah ρ tah = tah.map (renB (sgR ρ)) := by kernel_rfl) : lex n0 [] ρ ah x0 x tah := by
 unfold lex
 rw [h1]
 exact ⟨ha, mBs_same h2 h3⟩
theorem clF {d : Bool} {P : Program} {f : FuncId} {ah : List B} {env : List (Nat × A)} {args : List A} {g : G} {k : List B → A → Prop} {kp : A → St → Prop} {targs : List A} {tah Y : List B} {X : A} (m : List Nat) (Z : List B) (hs : DoesD d P f targs tah (Rt X Y)) (hk : ap2 k Z (renA (sig m ah.length) X))
  (ha : mAs (frOf m tah) ah (samesR m) args targs := by repeat' first | exact trivial | exact rfl | refine And.intro ?_ ?_) (hZ : mrg m tah ah Y = Z := by kernel_rfl) (h1 : (nodupB m && m.all (fun j => Nat.blt j ah.length) && nodupB (usedOf (samesR m) tah)) = true := by kernel_rfl)
  (h2 : chkBs (samesR m) (samesR m) tah = true := by kernel_rfl) (h3 : selB ah (samesR m) tah = tah.map (renB (sgR (samesR m))) := by kernel_rfl) (hg : g.call m = true := by rfl) :
  ∃ (js m : List Nat) (targs : List A) (tah : List B) (Q : Out → List B → Prop), DoesD d P f targs tah Q ∧ CallOk (frz js ah) m args targs tah ∧ g.call m = true ∧
   ∀ out ah', Q out ah' → match out with
    | .ret a => ap2 k (mrg m tah (frz js ah) ah') (renA (sig m (frz js ah).length) a)
    | .pan a => ap2 kp (renA (sig m (frz js ah).length) a) ⟨env, mrg m tah (frz js ah) ah'⟩ :=
 ⟨[], m, targs, tah, _, hs, callOk_of ha h1 h2 h3, hg, fun out ah' h => by
  have e1 := h.1
  have e2 := h.2
  clear h
  subst e1
  show ap2 k (mrg m tah ah ah') (renA (sig m ah.length) X)
  rw [e2, hZ]
  exact hk⟩
theorem rxF {n0 : Nat} {ah : List B} {x0 X : A} {Y : List B} (ρ : List Rn) (ha : mA (fun _ => false) ah ρ x0 X := by repeat' first | exact trivial | exact rfl | refine And.intro ?_ ?_) (h1 : (idB 0 ρ n0 && nodupB (usedOf ρ Y)) = true := by kernel_rfl)
  (h2 : chkBs ρ ρ Y = true := by kernel_rfl) (h3 : selB ah ρ Y = Y.map (renB (sgR ρ)) := by kernel_rfl) (hc : (cleanA X && Y.all cleanBlk) = true := by kernel_rfl) : ∃ js ρ x tah, lex n0 js ρ ah x0 x tah ∧ (cleanA x && tah.all cleanBlk) = true ∧ Rt X Y (.ret x) tah :=
 ⟨[], ρ, X, Y, lex_of ha h1 h2 h3, hc, rfl, rfl⟩
theorem leF {n0 : Nat} {ρ : List Rn} {s t : St} (he : mE s.ah ρ s.env t.env := by repeat' first | exact trivial | exact rfl | refine And.intro ?_ ?_) (h1 : (idB 0 ρ n0 && nodupB (usedOf ρ t.ah)) = true := by kernel_rfl)
  (h2 : chkBs ρ ρ t.ah = true := by kernel_rfl) (h3 : selB s.ah ρ t.ah = t.ah.map (renB (sgR ρ)) := by kernel_rfl) : le n0 [] ρ s t := by
 unfold le
 rw [h1]
 exact ⟨he, mBs_same h2 h3⟩
end Go.AM
end
/- part -/
section
namespace Go.AM
open Go Go.NB
theorem clJ {d : Bool} {P : Program} {f : FuncId} {ah : List B} {env : List (Nat × A)} {args : List A} {g : G} {k : List B → A → Prop} {kp : A → St → Prop} {targs : List A} {tah Y : List B} {X : A} (js m : List Nat) (Z : List B) (hs : DoesD d P f targs tah (Rt X Y)) (hk : ap2 k Z (renA (sig m (frz js ah).length) X))
  (ha : mAs (frOf m tah) (frz js ah) (samesR m) args targs := by repeat' first | exact trivial | exact rfl | refine And.intro ?_ ?_) (hZ : mrg m tah (frz js ah) Y = Z := by kernel_rfl) (h1 : (nodupB m && m.all (fun j => Nat.blt j (frz js ah).length) && nodupB (usedOf (samesR m) tah)) = true := by kernel_rfl)
  (h2 : chkBs (samesR m) (samesR m) tah = true := by kernel_rfl) (h3 : selB (frz js ah) (samesR m) tah = tah.map (renB (sgR (samesR m))) := by kernel_rfl) (hg : g.call m = true := by rfl) :
  ∃ (js m : List Nat) (targs : List A) (tah : List B) (Q : Out → List B → Prop), DoesD d P f targs tah Q ∧ CallOk (frz js ah) m args targs tah ∧ g.call m = true ∧
   ∀ out ah', Q out ah' → match out with
    | .ret a => ap2 k (mrg m tah (frz js ah) ah') (renA (sig m (frz js ah).length) a)
    | .pan a => ap2 kp (renA (sig m (frz js ah).length) a) ⟨env, mrg m tah (frz js ah) ah'⟩ :=
 ⟨js, m, targs, tah, _, hs, callOk_of ha h1 h2 h3, hg, fun out ah' h => by
  have e1 := h.1
  have e2 := h.2
  clear h
  subst e1
  show ap2 k (mrg m tah (frz js ah) ah') (renA (sig m (frz js ah).length) X)
  rw [e2, hZ]
  exact hk⟩
end Go.AM
end
