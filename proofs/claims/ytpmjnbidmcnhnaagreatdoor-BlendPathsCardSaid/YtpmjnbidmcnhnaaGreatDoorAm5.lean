/- part -/
import Derived.Test.YtpmjnbidmcnhnaaGreatDoorAm4
set_option linter.unusedVariables false
set_option linter.unusedSimpArgs false
namespace Go.AM
open Go Go.NB
section
variable {P : Program} {tab : Nat → Option TD} {E : En} {F : Nat → Prop} {γ : List Value} {s : St} {a : Act} {w : World} {o : Oper} {k : A → Prop}
theorem asInt_of {H : Heap} {m : Md} (hE : ER F H m s.env a) {x : Operand} {n : Int} (h : asInt s x = some n) : ∃ q, a.eval x = .int q n := by
 unfold asInt at h
 split at h
 ·rename_i q n' hx
  cases h
  have := opn_c hE hx
  generalize hv : a.eval x = v at this
  cases this
  exact ⟨_, rfl⟩
 ·cases h
theorem rd_part (hT : TabOk P tab) {t : Nat} {d : TD} (ht : tab t = some d) {m : Md} {H : Heap} {cs : List C} {vs : List Value} {off : Nat} (hr : RL F H m cs vs) (h : rd d (cs.drop off) k) :
  ∃ v x, k x ∧ RA F H m x v ∧ ∀ w, (part t vs.toArray off).run P w = .ok v w := by
 unfold rd at h
 obtain ⟨hle, h⟩ := bguard h
 have hle := Nat.le_of_ble_eq_true hle
 have hr' := hr.drop off
 have hl := hr'.length
 rcases bcase h with ⟨hag, h⟩ | ⟨hag, h⟩
 ·refine ⟨_, _, h, ⟨_, rfl, hr'.take _⟩, fun w => ?_⟩
  have hag' := hT.agg t d ht w
  rw [hag] at hag'
  simp [part, hag', hT.size ht w]
 ·split at h
  ·rename_i x' cs' hcs
   rw [hcs] at hr'
   obtain ⟨v, us, hvs, h2, h3⟩ := hr'.uncons
   refine ⟨v, _, h, h2, fun w => ?_⟩
   have hag' := hT.agg t d ht w
   rw [hag] at hag'
   have : vs[off]? = some v := by
    have := congrArg List.head? hvs
    simpa using this
   simp [part, hag', this]
  ·exact h.elim
theorem y_field (hT : TabOk P tab) (hE : ER F w.heap ⟨E.B, γ⟩ s.env a) {t i : Nat} {x : Operand} (ho : o.op = .field t x i) (h : Y1 tab s (.field t x i) k) : Yd P F ⟨E.B, γ⟩ a w o k := by
 simp only [Y1] at h
 split at h
 ·rename_i d ht
  have hk := hT.kind t d ht
  split at h
  ·rename_i offs hd
   rw [hd] at hk
   obtain ⟨fs, hu, hfs, _⟩ := hk
   split at h
   ·rename_i e off hi
    obtain ⟨f, hf, rfl, rfl⟩ := fields_get hfs hi
    split at h
    ·rename_i _ _ de cs hde hx
     obtain ⟨vs, hv, hr⟩ := opn_st hE hx
     obtain ⟨v, y, h1, h2, h3⟩ := rd_part hT hde hr h
     exact ⟨v, y, h1, h2, fun w' _ => by unfold execOp; rw [ho]; simp [hv, Instr.field, run_underlying hu, hf, asAgg, h3]⟩
    ·exact h.elim
   ·exact h.elim
  ·exact h.elim
 ·exact h.elim
theorem run_places {fs : List Field} (hT : TabOk P tab) (hs : ∀ f ∈ fs, (tab f.type).isSome = true) (w : World) :
  (fs.mapM fun f => Prod.mk f.offset <$> sizeOf f.type).run P w = .ok (fs.map fun f => (f.offset, ((tab f.type).map (·.size)).getD 0)) w := by
 induction fs with
 | nil => simp
 | cons f fs ih =>
  obtain ⟨d, hd⟩ := Option.isSome_iff_exists.1 (hs f (by simp))
  simp [List.mapM_cons, hT.size hd w, ih (fun g hg => hs g (by simp [hg])), hd]
theorem buildG_sound {m : Md} {H : Heap} (hE : ER F H m s.env a) {place : Nat → Option (Nat × Nat)} {offs : List (Nat × Nat)} (hplace : ∀ i e off d, offs[i]? = some (e, off) → tab e = some d → place i = some (off, d.size)) {kk : List C → Prop} :
  ∀ (parts : List (Nat × Operand)) (cs : List C) (vs : List Value), RL F H m cs vs → buildC tab offs (parts.map fun p => (p.1, opn s p.2)) cs kk →
   ∃ cs' vs', kk cs' ∧ RL F H m cs' vs' ∧ Instr.fill place vs.toArray (parts.map fun p => (p.1, a.eval p.2)) = some vs'.toArray
 | [], cs, vs, hr, h => ⟨cs, vs, h, hr, rfl⟩
 | (i, x) :: r, cs, vs, hr, h => by
  simp only [List.map_cons, buildC] at h
  split at h
  ·rename_i _ _ e off new hi hx
   split at h
   ·rename_i d hd
    obtain ⟨hcnd, h⟩ := bguard h
    rw [Bool.and_eq_true] at hcnd
    have h1 := Nat.eq_of_beq_eq_true hcnd.1
    have h2 := Nat.le_of_ble_eq_true hcnd.2
    have hpl := hplace i e off d hi hd
    obtain ⟨us, hu, hru⟩ := opn_cells hE hx
    have hlu := hru.length
    have hlv := hr.length
    have hr' : RL F H m (cs.take off ++ (new ++ cs.drop (off + new.length))) (vs.take off ++ (us ++ vs.drop (off + us.length))) :=
     (hr.take _).append (hru.append (by rw [hlu]; exact hr.drop _))
    obtain ⟨cs', vs', h3, h4, h5⟩ := buildG_sound hE hplace r _ _ hr' h
    refine ⟨cs', vs', h3, h4, ?_⟩
    rw [List.map_cons, Instr.fill]
    simp only [hpl]
    have hsz : (a.eval x).cells.size = us.length := by rw [hu]; rfl
    rw [if_neg (by simp [hsz]; omega)]
    have hfold := fold_set us off 0 vs.toArray (by simp; omega)
    simp only [Nat.add_zero] at hfold
    have he : (a.eval x).cells.zipIdx.foldl (fun cs (x : Value × Nat) => cs.setIfInBounds (off + x.2) x.1) vs.toArray = (vs.take off ++ (us ++ vs.drop (off + us.length))).toArray := by
     apply Array.toList_inj.1
     rw [hu]
     have : (us.toArray.zipIdx.foldl (fun cs (x : Value × Nat) => cs.setIfInBounds (off + x.2) x.1) vs.toArray) = ((us.zipIdx 0).foldl (fun cs (x : Value × Nat) => cs.setIfInBounds (off + x.2) x.1) vs.toArray) := by
      simp
     rw [this, hfold]
     simp
    rw [he]
    exact h5
   ·exact h.elim
  ·exact h.elim
theorem buildC_sound (hT : TabOk P tab) {m : Md} {H : Heap} (hE : ER F H m s.env a) {fs : Array Field} {offs : List (Nat × Nat)} (hfs : fs.toList.map (fun f => (f.type, f.offset)) = offs) {kk : List C → Prop} (parts : List (Nat × Operand)) (cs : List C) (vs : List Value) (hr : RL F H m cs vs) (h : buildC tab offs (parts.map fun p => (p.1, opn s p.2)) cs kk) :
  ∃ cs' vs', kk cs' ∧ RL F H m cs' vs' ∧ Instr.fill (fun i => (fs.toList.map fun f => (f.offset, ((tab f.type).map (·.size)).getD 0))[i]?) vs.toArray (parts.map fun p => (p.1, a.eval p.2)) = some vs'.toArray :=
 buildG_sound hE (fun i e off d hi hd => by
  obtain ⟨f, hf, rfl, rfl⟩ := fields_get hfs hi
  rw [List.getElem?_map, Array.getElem?_toList, hf]
  simp [hd]) parts cs vs hr h
theorem y_build (hT : TabOk P tab) (hE : ER F w.heap ⟨E.B, γ⟩ s.env a) {t : Nat} {parts : Array (Nat × Operand)} (ho : o.op = .build t parts) (h : Y1 tab s (.build t parts) k) : Yd P F ⟨E.B, γ⟩ a w o k := by
 simp only [Y1] at h
 split at h
 ·rename_i d ht
  have hk := hT.kind t d ht
  split at h
  ·rename_i offs hd
   rw [hd] at hk
   obtain ⟨fs, hu, hfs, hsome⟩ := hk
   obtain ⟨z, zs, hz, hzc, hzr⟩ := hT.zero ht
   obtain ⟨cs', vs', h1, h2, h3⟩ := buildC_sound hT hE hfs parts.toList d.zero zs (hzr F w.heap ⟨E.B, γ⟩) h
   refine ⟨_, _, h1, ⟨vs', rfl, h2⟩, fun w' _ => ?_⟩
   have hpl := run_places hT (fs := fs.toList) (fun f hf => by
    have := List.all_eq_true.1 hsome (f.type, f.offset) (by rw [← hfs]; exact List.mem_map.2 ⟨f, hf, rfl⟩)
    exact this) w'
   have hm : (List.map (fun p => (p.1, a.eval p.2)) parts.toList) = (Array.map (fun x => match x with | (i, x) => (i, a.eval x)) parts).toList := by simp
   rw [hm] at h3
   unfold execOp; rw [ho]
   simp only [Sem.run_bind, Instr.build, hz, Result.andThen_ok, run_underlying hu, Array.mapM_eq_mapM_toList]
   simp [hpl, hzc]
   have h3' := h3
   simp at h3'
   simp [h3']
  ·rename_i n e hd
   rw [hd] at hk
   split at h
   ·rename_i de hde
    obtain ⟨z, zs, hz, hzc, hzr⟩ := hT.zero ht
    obtain ⟨cs', vs', h1, h2, h3⟩ := buildG_sound hE (place := fun i => some (i * de.size, de.size)) (fun i e' off d' hi hd' => by
     rw [List.getElem?_map] at hi
     obtain ⟨j, hj, hji⟩ := Option.map_eq_some_iff.1 hi
     have hj2 : j = i := by
      obtain ⟨hlt, he⟩ := List.getElem?_eq_some_iff.1 hj
      rw [List.getElem_range] at he; exact he.symm
     subst hj2
     obtain ⟨rfl, rfl⟩ := Prod.mk.inj hji
     rw [hde] at hd'
     cases hd'
     rfl) parts.toList d.zero zs (hzr F w.heap ⟨E.B, γ⟩) h
    refine ⟨_, _, h1, ⟨vs', rfl, h2⟩, fun w' _ => ?_⟩
    have hm : (List.map (fun p => (p.1, a.eval p.2)) parts.toList) = (Array.map (fun x => match x with | (i, x) => (i, a.eval x)) parts).toList := by simp
    rw [hm] at h3
    unfold execOp; rw [ho]
    simp only [Sem.run_bind, Instr.build, hz, Result.andThen_ok, run_underlying hk, hT.size hde, hzc]
    have h3' := h3
    simp at h3'
    simp [h3']
   ·exact h.elim
  ·exact h.elim
 ·exact h.elim
theorem run_indexAt {t e : Nat} {b off n m sz i : Nat} {q : IntKind} (ht : P.underlying t = some (.slice e)) (hz : ∀ w, (sizeOf e).run P w = .ok sz w) (hi : i < n) (w : World) :
  (Instr.indexAt t (.slice (some ⟨b, off, none⟩) n m) (.int q (i : Int))).run P w = .ok (.pointer (some ⟨b, off + i * sz, none⟩)) w := by
 simp [Instr.indexAt, run_underlying ht, hz, asIntOf, hi, Addr.add_lit]
theorem y_indexAddr (hT : TabOk P tab) (hE : ER F w.heap ⟨E.B, γ⟩ s.env a) (hW : WR E F γ s.ah w.heap) {t : Nat} {x y : Operand} (ho : o.op = .indexAddr t x y) (h : Y1 tab s (.indexAddr t x y) k) : Yd P F ⟨E.B, γ⟩ a w o k := by
 simp only [Y1] at h
 have run : ∀ {p q r : Value}, a.eval x = p → a.eval y = q → (∀ w, (Instr.indexAt t p q).run P w = .ok r w) → ∀ w', (execOp a.eval o).run P w' = .ok (.value r) w' := fun hp hq h1 w' => by
  unfold execOp; rw [ho]; simp [hp, hq, h1]
 split at h
 ·rename_i d n ht hn
  obtain ⟨q, hq⟩ := asInt_of hE hn
  have hk := hT.kind t d ht
  split at h
  ·rename_i e hd
   rw [hd] at hk
   split at h
   ·rename_i _ _ de c hde hx
    have hc := opn_c hE hx
    have hz := hT.size hde
    split at h
    ·rename_i sz α enc l
     obtain ⟨i, z, rfl, hi, h⟩ := h
     obtain ⟨hsz, h'⟩ := bguard h
     obtain rfl := Nat.eq_of_beq_eq_true hsz
     have hs : SV F w.heap ⟨_, α, enc, l⟩ (a.eval x) := hc.sv
     have hlt := (List.getElem?_eq_some_iff.1 hi).1
     generalize hv : a.eval x = v at hc hs
     cases hc with
     | ls0 _ => cases hlt
     | ls hb h1 h2 hr hz' hcc _ =>
      obtain ⟨us, h3, h4⟩ := hs.elem hi
      exact ⟨_, _, h', .bp (.inl hb) h3.up h4 .nl, fun w' _ => run hv hq (run_indexAt hk hz hlt) w'⟩
    ·rename_i sz α enc l
     obtain ⟨i, z, rfl, hi, h⟩ := h
     obtain ⟨hsz, h'⟩ := bguard h
     obtain rfl := Nat.eq_of_beq_eq_true hsz
     have hs : SV F w.heap ⟨_, α, enc, l⟩ (a.eval x) := hW.sl hc rfl
     have hlt := (List.getElem?_eq_some_iff.1 hi).1
     generalize hv : a.eval x = v at hc hs
     cases hc with
     | bs0 _ => cases hlt
     | bs hb h1 h2 hr hz' hcc _ =>
      obtain ⟨us, h3, h4⟩ := hs.elem hi
      exact ⟨_, _, h', .bp hb h3.up h4 .nl, fun w' _ => run hv hq (run_indexAt hk hz hlt) w'⟩
    ·rename_i j
     split at h
     ·rename_i L hL
      rw [LS.on_eq] at h
      obtain ⟨i, ⟨rfl, hlt⟩, h⟩ := h
      obtain ⟨hsz, h⟩ := bguard h
      have hsz := Nat.eq_of_beq_eq_true hsz
      have hs : SV F w.heap L (a.eval x) := hW.sl hc hL
      obtain ⟨b, off, cap, hv⟩ := hs.some (by omega)
      rw [hv] at hc
      cases hc with
      | @rw _ _ p' q' n' cap' _ _ hg hqq _ =>
       obtain ⟨_, _, e1, e2, _⟩ := hs.slice
       rw [hv] at e1
       cases e1
       have hp := hqq (by omega)
       rw [← hp] at hg
       rw [hsz] at h
       exact ⟨_, _, h, .ep hg .nl, fun w' _ => run hv hq (run_indexAt hk hz hlt) w'⟩
     ·exact h.elim
    ·rename_i sz j lo m
     split at h
     ·rename_i L hL
      rw [LS.on_eq] at h
      obtain ⟨hsz, i, ⟨rfl, hlt⟩, h'⟩ := bguard h
      obtain rfl := Nat.eq_of_beq_eq_true hsz
      generalize hv : a.eval x = v at hc
      cases hc with
      | @sw _ _ _ _ _ p q' n0 cap _ _ hg hle hqq _ =>
       obtain ⟨b, hb1, hb2⟩ := Option.bind_eq_some_iff.1 hL
       have hs : SV F w.heap L _ := row_sv (hW.br j b _ hb1 hg) hb2
       obtain ⟨_, _, e1, e2, _⟩ := hs.slice
       cases e1
       obtain ⟨bk, off, cap', e3⟩ := hs.some (by omega)
       cases e3
       have hp := hqq (by omega)
       simp only [Option.map_some, Addr.add_lit] at hp
       subst hp
       refine ⟨.pointer (some ⟨bk, off + lo * de.size + i * de.size, none⟩), _, h', ?_, fun w' _ => run hv hq (run_indexAt hk hz hlt) w'⟩
       rw [show off + lo * de.size + i * de.size = off + (lo + i) * de.size + 0 by rw [Nat.add_mul]; omega]
       exact .ep hg .nl
     ·exact h.elim
    ·exact h.elim
   ·exact h.elim
  ·rename_i len e hd
   rw [hd] at hk
   split at h
   ·rename_i _ _ de j off hde hx
    obtain ⟨b, hv, hr⟩ := ptr_of (opn_c hE hx)
    obtain ⟨i, ⟨rfl, hlt⟩, h⟩ := h
    exact ⟨_, _, h, hr _, fun w' _ => run hv hq (fun w => by simp [Instr.indexAt, Instr.sureAddr, run_underlying hk, hT.size hde, asIntOf, hlt, Addr.add_lit]) w'⟩
   ·rename_i _ _ de cs hde hx
    obtain ⟨b, off, hv, hr⟩ := bp_of (opn_c hE hx)
    obtain ⟨i, ⟨rfl, hlt⟩, h⟩ := h
    exact ⟨_, _, h, hr _, fun w' _ => run hv hq (fun w => by simp [Instr.indexAt, Instr.sureAddr, run_underlying hk, hT.size hde, asIntOf, hlt, Addr.add_lit]) w'⟩
   ·rename_i _ _ de sz j i0 o' hde hx
    obtain ⟨b, q', hv, hr⟩ := ep_of (opn_c hE hx)
    obtain ⟨i, ⟨rfl, hlt⟩, h⟩ := h
    exact ⟨_, _, h, hr _, fun w' _ => by rw [← Nat.add_assoc]; exact run hv hq (fun w => by simp [Instr.indexAt, Instr.sureAddr, run_underlying hk, hT.size hde, asIntOf, hlt, Addr.add_lit]) w'⟩
   ·exact h.elim
  ·exact h.elim
 ·exact h.elim
theorem y_index (hT : TabOk P tab) (hE : ER F w.heap ⟨E.B, γ⟩ s.env a) {t : Nat} {x y : Operand} (ho : o.op = .index t x y) (h : Y1 tab s (.index t x y) k) : Yd P F ⟨E.B, γ⟩ a w o k := by
 simp only [Y1] at h
 split at h
 ·rename_i d n ht hn
  obtain ⟨q, hq⟩ := asInt_of hE hn
  have hk := hT.kind t d ht
  split at h
  ·rename_i hd
   rw [hd] at hk
   split at h
   ·rename_i l hx
    have hc := opn_c hE hx
    generalize hv : a.eval x = v at hc
    cases hc with
    | str _ _ =>
     obtain ⟨i, b, rfl, hi, h⟩ := h
     obtain ⟨hlt, rfl⟩ := List.getElem?_eq_some_iff.1 hi
     refine ⟨_, _, h, .int .nl, fun w' _ => ?_⟩
     have hs : i < (⟨l.toArray⟩ : ByteArray).size := hlt
     unfold execOp; rw [ho]
     simp only [hv, hq, NB.str, Sem.run_bind, run_index_string w' t _ _ _ hk]
     simp [hs]
     rfl
   ·exact h.elim
  ·rename_i len e hd
   rw [hd] at hk
   split at h
   ·rename_i _ _ de cs hde hx
    obtain ⟨vs, hv, hr⟩ := opn_st hE hx
    obtain ⟨i, ⟨rfl, hlt⟩, h⟩ := h
    obtain ⟨v, y', h1, h2, h3⟩ := rd_part hT hde hr h
    exact ⟨v, y', h1, h2, fun w' _ => by unfold execOp; rw [ho]; simp [hv, hq, Instr.index, run_underlying hk, asIntOf, hlt, hT.size hde, h3]⟩
   ·exact h.elim
  ·exact h.elim
 ·exact h.elim
theorem asInt?_of {H : Heap} {m : Md} (hE : ER F H m s.env a) {x : Option Operand} {n : Option Int} (h : asInt? s x = some n) : x.map a.eval = n.map fun n => .int .i64 n := by
 unfold asInt? at h
 split at h
 ·cases h; rfl
 ·rename_i x
  split at h
  ·rename_i n' hx
   cases h
   have := opn_c hE hx
   generalize hv : a.eval x = v at this
   cases this
   simp [hv]
  ·cases h
theorem bounds_of {n : Nat} {lo hi : Option Int} {kk : Nat → Nat → Prop} (h : bounds n lo hi kk) : ∃ x y : Nat, kk x y ∧ x ≤ y ∧ y ≤ n ∧ ∃ lo' hi' : Option Nat, lo = lo'.map (fun a => ((a : Nat) : Int)) ∧ hi = hi'.map (fun a => ((a : Nat) : Int)) ∧ lo'.getD 0 = x ∧ hi'.getD n = y := by
 obtain ⟨x, y, h1, h2, h3, h4⟩ := h
 refine ⟨x, y, h4, h3.1, h3.2, ?_⟩
 cases lo with
 | none =>
  cases hi with
  | none => exact ⟨none, none, rfl, rfl, h1.symm, h2.symm⟩
  | some b => simp only [] at h1 h2; exact ⟨none, some y, rfl, by rw [h2]; rfl, h1.symm, rfl⟩
 | some b =>
  cases hi with
  | none => simp only [] at h1 h2; exact ⟨some x, none, by rw [h1]; rfl, rfl, rfl, h2.symm⟩
  | some b' => simp only [] at h1 h2; exact ⟨some x, some y, by rw [h1]; rfl, by rw [h2]; rfl, rfl, rfl⟩
theorem run_sliceAt' {t e : Nat} {sz : Nat} (ht : P.underlying t = some (.slice e)) (hz : ∀ w, (sizeOf e).run P w = .ok sz w) (p : Option Addr) (n cap : Nat) (lo hi : Option Nat) (hlo : lo.getD 0 ≤ hi.getD n) (hhi : hi.getD n ≤ cap) (w : World) :
  (Instr.sliceAt t (.slice p n cap) (lo.map fun x => .int .i64 (x : Nat)) (hi.map fun x => .int .i64 (x : Nat)) .none).run P w =
   .ok (.slice (if cap = lo.getD 0 then p else p.map (·.add (lo.getD 0 * sz))) (hi.getD n - lo.getD 0) (cap - lo.getD 0)) w := by
 cases lo with
 | none =>
  cases hi with
  | none => simp [Instr.sliceAt, Instr.slice, run_underlying ht, Instr.sliceBounds, hz] at hlo hhi ⊢
  | some h =>
   simp at hlo hhi
   simp [Instr.sliceAt, Instr.slice, run_underlying ht, Instr.sliceBounds, Instr.sliceBound, asIntOf, hz, hhi]
 | some l =>
  cases hi with
  | none =>
   simp at hlo hhi
   simp [Instr.sliceAt, Instr.slice, run_underlying ht, Instr.sliceBounds, Instr.sliceBound, asIntOf, hz, hlo]
  | some h =>
   simp at hlo hhi
   simp [Instr.sliceAt, Instr.slice, run_underlying ht, Instr.sliceBounds, Instr.sliceBound, asIntOf, hz, hlo, hhi]
theorem run_sliceStr {t : Nat} (ht : P.underlying t = some .string) (l : List UInt8) (lo hi : Option Nat) (hlo : lo.getD 0 ≤ hi.getD l.length) (hhi : hi.getD l.length ≤ l.length) (w : World) :
  (Instr.sliceAt t (NB.str l) (lo.map fun x => .int .i64 (x : Nat)) (hi.map fun x => .int .i64 (x : Nat)) .none).run P w = .ok (NB.str ((l.take (hi.getD l.length)).drop (lo.getD 0))) w := by
 have e : (⟨l.toArray⟩ : ByteArray).size = l.length := rfl
 have key : ∀ x y : Nat, x ≤ y → y ≤ l.length → (⟨l.toArray⟩ : ByteArray).extract x y = ⟨((l.take y).drop x).toArray⟩ := fun x y h1 h2 => by
  apply ByteArray.ext
  simp [ByteArray.data_extract]
  rw [List.drop_take]
 cases lo with
 | none =>
  cases hi with
  | none =>
   have := key 0 l.length (by omega) (by omega)
   simp [Instr.sliceAt, Instr.slice, run_underlying ht, Instr.sliceBounds, NB.str, e, this] at hlo hhi ⊢
  | some h =>
   simp at hlo hhi
   have := key 0 h (by omega) (by omega)
   simp [Instr.sliceAt, Instr.slice, run_underlying ht, Instr.sliceBounds, Instr.sliceBound, asIntOf, NB.str, e, hhi, this]
 | some x =>
  cases hi with
  | none =>
   simp at hlo hhi
   have := key x l.length (by omega) (by omega)
   simp [Instr.sliceAt, Instr.slice, run_underlying ht, Instr.sliceBounds, Instr.sliceBound, asIntOf, NB.str, e, hlo, this]
  | some h =>
   simp at hlo hhi
   have := key x h (by omega) (by omega)
   simp [Instr.sliceAt, Instr.slice, run_underlying ht, Instr.sliceBounds, Instr.sliceBound, asIntOf, NB.str, e, hlo, hhi, this]
theorem RL.cut {H : Heap} {m : Md} {sz : Nat} {α : Type} {enc : α → List C} {l : List α} {p : Option Addr} {n cap : Nat} (h : RL F H m [.ls sz α enc l] [.slice p n cap]) {x y : Nat} (hx : x ≤ y) (hy : y ≤ l.length) :
  RL F H m [.ls sz α enc ((l.drop x).take (y - x))] [subv sz x (y - x) (.slice p n cap)] := by
 have hn : n = l.length := by
  obtain ⟨p', cap', e, _⟩ := h.sv.slice
  cases e; rfl
 cases h with
 | ls0 _ =>
  simp at hy
  obtain rfl : y = 0 := hy
  obtain rfl : x = 0 := by omega
  simp only [List.drop_nil, List.take_nil, subv]
  exact .ls0 .nl
 | ls hb g1 g2 hr hz hc _ =>
  have hs := (RL.ls (m := m) hb g1 g2 hr hz hc .nl).sv.part (lo := x) (n := y - x) (by omega)
  generalize hu : subv sz x (y - x) _ = u at hs
  rcases hs with ⟨p', rfl, e⟩ | ⟨b, off, cap', css, rfl, h1, h2, h3, h4, h5⟩
  ·have e : (l.drop x).take (y - x) = [] := e
   rw [e]; exact .ls0 .nl
  ·have hb' : ∃ off', b = _ ∧ off' = off := ⟨off, by
    simp only [subv] at hu
    split at hu
    ·simp at hu; exact hu.1.1.symm
    ·simp [Addr.add_lit] at hu; exact hu.1.1.symm, rfl⟩
   obtain ⟨_, rfl, rfl⟩ := hb'
   exact .ls hb h1 h2 h3 h4 h5 .nl
theorem RL.cutb {H : Heap} {m : Md} {sz : Nat} {α : Type} {enc : α → List C} {l : List α} {p : Option Addr} {n cap : Nat} (hv : SV F H ⟨sz, α, enc, l⟩ (.slice p n cap)) (h : RL F H m [.bs sz α enc l] [.slice p n cap]) {x y : Nat} (hx : x ≤ y) (hy : y ≤ l.length) :
  RL F H m [.bs sz α enc ((l.drop x).take (y - x))] [subv sz x (y - x) (.slice p n cap)] := by
 have hn : n = l.length := by
  obtain ⟨p', cap', e, _⟩ := hv.slice
  cases e; rfl
 cases h with
 | bs0 _ =>
  simp at hy
  obtain rfl : y = 0 := hy
  obtain rfl : x = 0 := by omega
  simp only [List.drop_nil, List.take_nil, subv]
  exact .bs0 .nl
 | bs hb g1 g2 hr hz hc _ =>
  have hs := hv.part (lo := x) (n := y - x) (by omega)
  generalize hu : subv sz x (y - x) _ = u at hs
  rcases hs with ⟨p', rfl, e⟩ | ⟨b, off, cap', css, rfl, h1, h2, h3, h4, h5⟩
  ·have e : (l.drop x).take (y - x) = [] := e
   rw [e]; exact .bs0 .nl
  ·have hb' : ∃ off', b = _ ∧ off' = off := ⟨off, by
    simp only [subv] at hu
    split at hu
    ·simp at hu; exact hu.1.1.symm
    ·simp [Addr.add_lit] at hu; exact hu.1.1.symm, rfl⟩
   obtain ⟨_, rfl, rfl⟩ := hb'
   exact .bs hb h1 h2 h3 h4 h5 .nl
end
end Go.AM
