/- part -/
import Derived.Test.YtpechfcbnoggfaaGreatDoorAm5
import Derived.Laws.IdiomStrings
set_option linter.unusedVariables false
set_option linter.unusedSimpArgs false
section
namespace Go.AM
open Go Go.NB
section
variable {P : Program} {tab : Nat → Option TD} {E : En} {F : Nat → Prop} {γ : List Value} {s : St} {a : Act} {w : World} {o : Oper} {k : A → Prop}
theorem run_sliceStr8 {t : Nat} (ht : P.underlying t = some .string) (l : List UInt8) (x y : Nat) (h1 : x ≤ y) (h2 : y ≤ l.length) (w : World) :
  (Instr.sliceAt t (NB.str l) (some (.int .u8 (x : Nat))) (some (.int .u8 (y : Nat))) .none).run P w = .ok (NB.str ((l.take y).drop x)) w := by
 have e : (⟨l.toArray⟩ : ByteArray).size = l.length := rfl
 have key : (⟨l.toArray⟩ : ByteArray).extract x y = ⟨((l.take y).drop x).toArray⟩ := by
  apply ByteArray.ext
  simp [ByteArray.data_extract]
  rw [List.drop_take]
 simp [Instr.sliceAt, Instr.slice, run_underlying ht, Instr.sliceBounds, Instr.sliceBound, asIntOf, NB.str, e, h1, h2, key]
theorem y_slB (hT : TabOk P tab) (hE : ER F w.heap ⟨E.B, γ⟩ s.env a) {t : Nat} {x : Operand} {lo hi : Option Operand} (ho : o.op = .slice t x lo hi none) (h : slB tab s t x lo hi k) : Yd P F ⟨E.B, γ⟩ a w o k := by
 unfold slB at h
 split at h
 ·rename_i d lo hi ht
  have hk := hT.kind t d ht
  split at h
  ·rename_i l p q hd hx hlo hhi
   rw [hd] at hk
   obtain ⟨i, j, ⟨rfl, rfl⟩, ⟨h1, h2⟩, h⟩ := h
   have hc := opn_c hE hx
   have hcl := opn_c hE hlo
   have hch := opn_c hE hhi
   generalize hv : a.eval x = v at hc
   generalize hvl : a.eval lo = vl at hcl
   generalize hvh : a.eval hi = vh at hch
   cases hc with
   | str hl _ =>
    cases hcl with
    | int _ =>
     cases hch with
     | int _ =>
      refine ⟨_, _, h, .str (by rw [List.length_drop, List.length_take]; omega) .nl, fun w' _ => ?_⟩
      have h3 := run_sliceStr8 hk l i j h1 h2
      unfold execOp; rw [ho]
      simp [hv, hvl, hvh, h3]
  ·exact h.elim
 ·exact h.elim
theorem y_slice (hT : TabOk P tab) (hE : ER F w.heap ⟨E.B, γ⟩ s.env a) (hW : WR E F γ s.ah w.heap) {t : Nat} {x : Operand} {lo hi : Option Operand} (ho : o.op = .slice t x lo hi none) (h : Y1 tab s (.slice t x lo hi none) k) : Yd P F ⟨E.B, γ⟩ a w o k := by
 simp only [Y1] at h
 split at h
 ·rename_i d lo' hi' ht hlo hhi
  have hk := hT.kind t d ht
  have hlo := asInt?_of hE hlo
  have hhi := asInt?_of hE hhi
  have run : ∀ {p r : Value} {l2 h2 : Option Nat}, lo' = l2.map (fun a => ((a : Nat) : Int)) → hi' = h2.map (fun a => ((a : Nat) : Int)) → a.eval x = p →
    (∀ w, (Instr.sliceAt t p (l2.map fun x => .int .i64 (x : Nat)) (h2.map fun x => .int .i64 (x : Nat)) none).run P w = .ok r w) → ∀ w', (execOp a.eval o).run P w' = .ok (.value r) w' := fun {p r l2 h2} e1 e2 hp h1 w' => by
   have g1 : lo.map a.eval = l2.map fun x => .int .i64 (x : Nat) := by rw [hlo, e1, Option.map_map]; rfl
   have g2 : hi.map a.eval = h2.map fun x => .int .i64 (x : Nat) := by rw [hhi, e2, Option.map_map]; rfl
   unfold execOp; rw [ho]
   simp [g1, g2, hp, h1]
  split at h
  ·rename_i hd
   rw [hd] at hk
   split at h
   ·rename_i l hx
    have hc := opn_c hE hx
    obtain ⟨x1, y1, h, h1, h2, l2, h3, e1, e2, e3, e4⟩ := bounds_of h
    generalize hv : a.eval x = v at hc
    cases hc with
    | str hl _ =>
     refine ⟨_, _, h, .str (by rw [List.length_drop, List.length_take]; omega) .nl, fun w' _ => run e1 e2 hv (fun w => ?_) w'⟩
     have := run_sliceStr hk l l2 h3 (by rw [e3, e4]; exact h1) (by rw [e4]; exact h2) w
     rw [e3, e4] at this
     exact this
   ·exact h.elim
  ·rename_i e hd
   rw [hd] at hk
   split at h
   ·rename_i _ _ de c hde hx
    have hc := opn_c hE hx
    have hz := hT.size hde
    split at h
    ·obtain ⟨x1, y1, h, h1, h2, l2, h3, e1, e2, e3, e4⟩ := bounds_of h
     obtain rfl : y1 = 0 := by omega
     obtain rfl : x1 = 0 := by omega
     generalize hv : a.eval x = v at hc
     cases hc
     refine ⟨_, _, h, .nil .nl, fun w' _ => run e1 e2 hv (fun w => ?_) w'⟩
     have := run_sliceAt' hk hz none 0 0 l2 h3 (by rw [e3, e4]; omega) (by rw [e4]; omega) w
     rw [e3, e4] at this
     simpa using this
    ·rename_i sz α enc l
     obtain ⟨hsz, h'⟩ := bguard h
     obtain rfl := Nat.eq_of_beq_eq_true hsz
     obtain ⟨x1, y1, h', h1, h2, l2, h3, e1, e2, e3, e4⟩ := bounds_of h'
     obtain ⟨p, cap, hv, g1, g2⟩ := hc.sv.slice
     have g1 : l.length ≤ cap := g1
     rw [hv] at hc
     refine ⟨_, _, h', hc.cut h1 h2, fun w' _ => run e1 e2 hv (fun w => ?_) w'⟩
     have := run_sliceAt' hk hz p l.length cap l2 h3 (by rw [e3, e4]; exact h1) (by rw [e4]; omega) w
     rw [e3, e4] at this
     exact this
    ·rename_i sz α enc l
     obtain ⟨hsz, h'⟩ := bguard h
     obtain rfl := Nat.eq_of_beq_eq_true hsz
     obtain ⟨x1, y1, h', h1, h2, l2, h3, e1, e2, e3, e4⟩ := bounds_of h'
     have hs : SV F w.heap ⟨_, α, enc, l⟩ (a.eval x) := hW.sl hc rfl
     obtain ⟨p, cap, hv, g1, g2⟩ := hs.slice
     have g1 : l.length ≤ cap := g1
     rw [hv] at hc hs
     refine ⟨_, _, h', RL.cutb hs hc h1 h2, fun w' _ => run e1 e2 hv (fun w => ?_) w'⟩
     have := run_sliceAt' hk hz p l.length cap l2 h3 (by rw [e3, e4]; exact h1) (by rw [e4]; omega) w
     rw [e3, e4] at this
     exact this
    ·rename_i j
     split at h
     ·rename_i L hL
      rw [LS.on_eq] at h
      obtain ⟨hsz, h'⟩ := bguard h
      have hsz := Nat.eq_of_beq_eq_true hsz
      obtain ⟨x1, y1, h', h1, h2, l2, h3, e1, e2, e3, e4⟩ := bounds_of h'
      have hs : SV F w.heap L (a.eval x) := hW.sl hc hL
      obtain ⟨p, cap, hv, g1, g2⟩ := hs.slice
      rw [hv] at hc
      cases hc with
      | rw hg hqq _ =>
       refine ⟨_, _, h', .sw (q := if cap = x1 then p else p.map (·.add (x1 * L.sz))) hg (by omega) (fun e => by rw [if_neg e, hqq (by omega)]) .nl, fun w' _ => run e1 e2 hv (fun w => ?_) w'⟩
       have := run_sliceAt' hk hz p L.l.length cap l2 h3 (by rw [e3, e4]; exact h1) (by rw [e4]; omega) w
       rw [e3, e4] at this
       rw [hsz]
       exact this
     ·exact h.elim
    ·rename_i sz j l0 n0
     split at h
     ·rename_i L hL
      obtain ⟨hsz, h'⟩ := bguard h
      obtain rfl := Nat.eq_of_beq_eq_true hsz
      obtain ⟨x1, y1, h', h1, h2, l2, h3, e1, e2, e3, e4⟩ := bounds_of h'
      have hs : ∀ v, RL F w.heap ⟨E.B, γ⟩ [.rw j] [v] → SV F w.heap L v := fun v hv => hW.sl hv hL
      generalize hv : a.eval x = v at hc
      cases hc with
      | @sw _ _ _ _ _ p q nn cap _ _ hg hle hq _ =>
       obtain ⟨p', cap', he, g1, g2⟩ := (hs _ (.rw hg (fun _ => rfl) .nl)).slice
       cases he
       refine ⟨_, _, h', .sw (q := if cap - l0 = x1 then q else q.map (·.add (x1 * de.size))) hg (by omega) (fun e => ?_) .nl, fun w' _ => run e1 e2 hv (fun w => ?_) w'⟩
       ·rw [if_neg (by omega)]
        by_cases q1 : cap = l0
        ·obtain rfl : x1 = 0 := by omega
         omega
        ·rw [hq q1, Nat.add_mul]
         rcases hs _ (.rw hg (fun _ => rfl) .nl) with ⟨p', e5, _⟩ | ⟨b, off, cap', css, e5, _⟩
         ·simp at e5; omega
         ·simp at e5
          obtain ⟨rfl, rfl⟩ := e5
          simp [Addr.add_lit, Nat.add_assoc]
       ·have := run_sliceAt' hk hz q n0 (cap - l0) l2 h3 (by rw [e3, e4]; exact h1) (by rw [e4]; omega) w
        rw [e3, e4] at this
        rw [this, Nat.sub_sub]
     ·exact h.elim
    ·exact h.elim
   ·exact h.elim
  ·exact h.elim
 ·exact y_slB hT hE ho h
theorem bytes_flat {H : Heap} {m : Md} : ∀ (l : List UInt8) {css : List Value}, RL F H m (l.flatMap bytesC) css → css = l.map bv
 | [], css, h => by cases h; rfl
 | b :: l, css, h => by
  rw [List.flatMap_cons] at h
  cases h with
  | int t => rw [bytes_flat l t]; rfl
theorem y_convert (hT : TabOk P tab) (hE : ER F w.heap ⟨E.B, γ⟩ s.env a) (hW : WR E F γ s.ah w.heap) {t u : Nat} {x : Operand} (ho : o.op = .convert t u x) (h : Y1 tab s (.convert t u x) k) : Yd P F ⟨E.B, γ⟩ a w o k := by
 simp only [Y1] at h
 split at h
 ·rename_i _ _ _ d d' c ht hu hx
  have hk := hT.kind t d ht
  have hk' := hT.kind u d' hu
  have hc := opn_c hE hx
  unfold convC at h
  have run : ∀ {p r : Value} (w' : World), a.eval x = p → (convert t u p).run P w' = .ok r w' → (execOp a.eval o).run P w' = .ok (.value r) w' := fun w' hp h1 => by
   unfold execOp; rw [ho]; simp [hp, h1]
  split at h
  ·rename_i q1 q2 q3 n h1 h2
   rw [h1] at hk
   rw [h2] at hk'
   generalize hv : a.eval x = v at hc
   cases hc with
   | int _ => exact ⟨_, _, h, .int .nl, fun w' _ => run w' hv (by simp [convert, run_underlying hk, run_underlying hk', Conv.intToInt])⟩
  ·rename_i l h1 h2
   rw [h1] at hk
   rw [h2] at hk'
   generalize hv : a.eval x = v at hc
   cases hc with
   | str hl _ => exact ⟨_, _, h, .str hl .nl, fun w' _ => run w' hv (by simp [convert, run_underlying hk, run_underlying hk', NB.str])⟩
  ·rename_i e h1 h2
   rw [h1] at hk
   rw [h2] at hk'
   split at h
   ·rename_i de hde
    have hke := hT.kind e de hde
    split at h
    ·rename_i h3
     rw [h3] at hke
     generalize hv : a.eval x = v at hc
     cases hc
     refine ⟨_, _, h, .str (by simp) .nl, fun w' _ => run w' hv ?_⟩
     rw [run_convert_bytes_string w' t u e none 0 0 hk hke hk']
     rfl
    ·have h3 : de.kind = .int .u8 := by assumption
     rw [h3] at hke
     obtain ⟨l, hL, h⟩ := h
     have hs := hW.sl hc hL
     refine ⟨_, _, h, .str (by
      rcases hs with ⟨p, hv, hl⟩ | ⟨b, off, cap, css, hv, g1, g2, hr, hz, hcc⟩
      ·have hl : l = [] := hl
       rw [hl]; simp
      ·have g1 : l.length ≤ cap := g1
       have g2 : cap ≤ 9223372036854775807 := g2
       omega) .nl, fun w' hk2 => run w' rfl ?_⟩
     have hk2 : Keep [] w.heap w'.heap := hk2.resolve_left (by rw [ho]; simp [isN])
     rcases hs with ⟨p, hv, hl⟩ | ⟨b, off, cap, css, hv, g1, g2, hr, hz, hcc⟩
     ·rw [hv]
      have hl : l = [] := hl
      subst hl
      rw [run_convert_bytes_string w' t u e _ _ _ hk hke hk']
      cases p with
      | none => rfl
      | some ad => exact run_bytesToString w' ad 0 0 [] (by simpa using run_loadCells_list (P := P) (w := w') ad [] (by simp))
     ·rw [hv]
      have hcs : css = l.map bv := bytes_flat l hr
      exact run_convert_bytes_back w' t u e ⟨b, off, none⟩ cap l hk hke hk' (fun j hj => by
       rw [Addr.add_lit, cell?_of rfl]
       refine cell_keep (hcc j _ ?_) hk2 (by simp)
       rw [hcs]
       simp [hj, bv])
    ·exact h.elim
   ·exact h.elim
  ·exact h.elim
 ·exact h.elim
theorem RT.get {H : Heap} {m : Md} : ∀ {ts : List (Bool × List C)} {vs : List Value} {i : Nat} {g : Bool} {cs : List C}, RT F H m ts vs → ts[i]? = some (g, cs) → ∃ us, vs[i]? = some (fval g us) ∧ RL F H m cs us ∧ (g = false → cs.length = 1)
 | (_, _) :: _, v :: _, 0, g, cs, ⟨⟨us, h1, h2, h3⟩, _⟩, hi => by
  cases hi
  exact ⟨us, by rw [h2]; rfl, h1, h3⟩
 | _ :: ts, v :: vs, i + 1, g, cs, ⟨_, h⟩, hi => by
  have := RT.get (i := i) h (by simpa using hi)
  simpa using this
theorem y_extract (hE : ER F w.heap ⟨E.B, γ⟩ s.env a) {x : Operand} {i : Nat} (ho : o.op = .extract x i) (h : Y1 tab s (.extract x i) k) : Yd P F ⟨E.B, γ⟩ a w o k := by
 simp only [Y1] at h
 split at h
 ·rename_i ts hx
  have hc := opn_sound hE x
  rw [hx] at hc
  obtain ⟨vs, hv, hr⟩ := hc
  split at h
  ·rename_i g cs hi
   obtain ⟨us, h1, h2, h3⟩ := hr.get hi
   have run : ∀ w' : World, (execOp a.eval o).run P w' = .ok (.value (fval g us)) w' := fun w' => by
    unfold execOp; rw [ho]; simp [hv, Instr.extract, h1]
   rcases bcase h with ⟨rfl, h⟩ | ⟨rfl, h⟩
   ·exact ⟨_, _, h, ⟨us, rfl, h2⟩, fun w' _ => run w'⟩
   ·split at h
    ·obtain ⟨v, rfl, h4⟩ := h2.single
     exact ⟨_, _, h, h4, fun w' _ => run w'⟩
    ·exact h.elim
  ·exact h.elim
 ·exact h.elim
theorem capsC_sound {H : Heap} {m : Md} (hE : ER F H m s.env a) : ∀ {l : List Operand} {cs : List C}, capsC s l = some cs → RL F H m cs (l.map a.eval)
 | [], cs, h => by cases h; exact .nl
 | x :: l, cs, h => by
  unfold capsC at h
  split at h
  ·rename_i c cs' hx hl
   cases h
   exact (opn_c hE hx).cons (capsC_sound hE hl)
  ·cases h
theorem y_makeFunc (hE : ER F w.heap ⟨E.B, γ⟩ s.env a) {fn : Fn} {first caps : Array Operand} (ho : o.op = .makeFunc fn first caps) (h : Y1 tab s (.makeFunc fn first caps) k) : Yd P F ⟨E.B, γ⟩ a w o k := by
 cases fn with
 | func f =>
  simp only [Y1] at h
  split at h
  ·rename_i cs hf hc
   have hf : first = #[] := by simpa using hf
   refine ⟨_, _, h, .fn (capsC_sound hE hc) .nl, fun w' _ => ?_⟩
   unfold execOp; rw [ho]
   subst hf
   simp [Instr.makeFunc]
   rw [← Array.toList_map]
  ·exact h.elim
 | _ => simp only [Y1] at h
theorem y_makeInterface (hT : TabOk P tab) (hE : ER F w.heap ⟨E.B, γ⟩ s.env a) {t : Nat} {x : Operand} (ho : o.op = .makeInterface t x) (h : Y1 tab s (.makeInterface t x) k) : Yd P F ⟨E.B, γ⟩ a w o k := by
 simp only [Y1] at h
 split at h
 ·rename_i d ht
  have hk := hT.kind t d ht
  have run : ∀ w' : World, (∃ ty, P.underlying t = some ty ∧ ∀ ms, ty ≠ .interface ms) → (execOp a.eval o).run P w' = .ok (.value (.iface t (a.eval x))) w' := fun w' ⟨ty, hty, hne⟩ => by
   unfold execOp; rw [ho]
   cases ty <;> first | (exact (hne _ rfl).elim) | simp [Instr.makeInterface, run_underlying hty]
  have hty : d.kind ≠ .other → d.kind ≠ .ifc → ∃ ty, P.underlying t = some ty ∧ ∀ ms, ty ≠ .interface ms := fun hne hne2 => by
   revert hk
   cases hd : d.kind with
   | other => exact (hne hd).elim
   | ifc => exact (hne2 hd).elim
   | struct offs => rintro ⟨fs, h1, _⟩; exact ⟨_, h1, fun _ h => by cases h⟩
   | ptr => rintro ⟨e, h1⟩; exact ⟨_, h1, fun _ h => by cases h⟩
   | _ => intro h1; exact ⟨_, h1, fun _ h => by cases h⟩
  split at h
  ·exact h.elim
  ·exact h.elim
  ·rename_i hne hne2
   split at h
   ·rename_i c hx
    have hc := opn_c hE hx
    exact ⟨_, _, h, .iface (us := [a.eval x]) hc .nl, fun w' _ => run w' (hty hne hne2)⟩
   ·rename_i cs hx
    obtain ⟨vs, hv, hr⟩ := opn_st hE hx
    exact ⟨_, _, h, .iface (us := vs) hr .nl, fun w' _ => by rw [run w' (hty hne hne2), hv]; rfl⟩
   ·exact h.elim
 ·exact h.elim
theorem y_typeAssert (hT : TabOk P tab) (hE : ER F w.heap ⟨E.B, γ⟩ s.env a) {t u : Nat} {x : Operand} (ho : o.op = .typeAssert x u t true) (h : Y1 tab s (.typeAssert x u t true) k) : Yd P F ⟨E.B, γ⟩ a w o k := by
 simp only [Y1] at h
 split at h
 ·rename_i d ht
  have hk := hT.kind t d ht
  have hty : d.kind ≠ .other → d.kind ≠ .ifc → ∃ ty, P.underlying t = some ty ∧ ∀ ms, ty ≠ .interface ms := fun hne hne2 => by
   revert hk
   cases hd : d.kind with
   | other => exact (hne hd).elim
   | ifc => exact (hne2 hd).elim
   | struct offs => rintro ⟨fs, h1, _⟩; exact ⟨_, h1, fun _ h => by cases h⟩
   | ptr => rintro ⟨e, h1⟩; exact ⟨_, h1, fun _ h => by cases h⟩
   | _ => intro h1; exact ⟨_, h1, fun _ h => by cases h⟩
  split at h
  ·exact h.elim
  ·exact h.elim
  ·rename_i hne hne2
   split at h
   ·rename_i t' g cs hx
    obtain ⟨hb, h2⟩ := bguard h
    rw [Bool.and_eq_true] at hb
    obtain rfl := Nat.eq_of_beq_eq_true hb.1
    have hc := opn_c hE hx
    generalize hv : a.eval x = v at hc
    cases hc with
    | @iface _ _ _ _ us _ _ hr _ =>
     obtain ⟨ty, hty, hne⟩ := hty hne hne2
     refine ⟨.tuple #[fval g us, .bool true], .tup [(g, cs), (false, [.bool true])], h2, ⟨[fval g us, .bool true], rfl, ⟨us, hr, rfl, fun hg => ?_⟩, ⟨[.bool true], .bool .nl, rfl, fun _ => rfl⟩, trivial⟩, fun w' _ => ?_⟩
     ·have := hb.2
      rw [hg, Bool.false_or] at this
      exact Nat.eq_of_beq_eq_true this
     ·unfold execOp; rw [ho]
      cases ty <;> first | (exact (hne _ rfl).elim) | simp [Instr.typeAssert, run_underlying hty, hv]
   ·exact h.elim
 ·exact h.elim
theorem y_call (hT : TabOk P tab) (hE : ER F w.heap ⟨E.B, γ⟩ s.env a) (hW : WR E F γ s.ah w.heap) {c : Call} (ho : o.op = .call c) (h : Y1 tab s (.call c) k) : Yd P F ⟨E.B, γ⟩ a w o k := by
 obtain ⟨cl, args, tys⟩ := c
 simp only [Y1] at h
 have args_eq : ∀ {l : List Operand}, args.toList = l → args = l.toArray := fun h => by rw [← h]
 have tys_eq : ∀ {l : List TypeId}, tys.toList = l → tys = l.toArray := fun h => by rw [← h]
 split at h
 ·rename_i x t hargs htys
  have hargs := args_eq hargs
  have htys := tys_eq htys
  subst hargs htys
  split at h
  ·rename_i d c ht hx
   have hk := hT.kind t d ht
   have hc := opn_c hE hx
   split at h
   ·rename_i l hd
    rw [hd] at hk
    generalize hv : a.eval x = v at hc
    cases hc with
    | str _ _ =>
     have e : (⟨l.toArray⟩ : ByteArray).size = l.length := rfl
     exact ⟨_, _, h, .int .nl, fun w' _ => by unfold execOp; rw [ho]; simp [resolve, invoke, builtin, hv, NB.str, Builtin.len_, run_underlying hk, goInt, e]⟩
   ·rename_i e hd
    rw [hd] at hk
    generalize hv : a.eval x = v at hc
    cases hc
    exact ⟨_, _, h, .int .nl, fun w' _ => by unfold execOp; rw [ho]; simp [resolve, invoke, builtin, hv, Builtin.len_, run_underlying hk, goInt]⟩
   ·have h3 : ∃ e, d.kind = .sl e := ⟨_, by assumption⟩
    obtain ⟨e, hd⟩ := h3
    rw [hd] at hk
    split at h
    ·rename_i L hL
     rw [LS.on_eq] at h
     obtain ⟨p, cap, hv, _⟩ := (hW.sl hc hL).slice
     exact ⟨_, _, h, .int .nl, fun w' _ => by unfold execOp; rw [ho]; simp [resolve, invoke, builtin, hv, Builtin.len_, run_underlying hk, goInt]⟩
    ·exact h.elim
   ·exact h.elim
  ·exact h.elim
 ·rename_i x y hargs
  have hargs := args_eq hargs
  subst hargs
  split at h
  ·rename_i n m' hx hy
   have hc := opn_c hE hx
   have hc' := opn_c hE hy
   generalize hv : a.eval x = v at hc
   generalize hv' : a.eval y = v' at hc'
   cases hc; cases hc'
   refine ⟨_, _, h, .int .nl, fun w' _ => ?_⟩
   unfold execOp; rw [ho]; simp [resolve, invoke, builtin, hv, hv', Builtin.max_, Builtin.max2]
   omega
  ·exact h.elim
 ·rename_i x y hargs
  have hargs := args_eq hargs
  subst hargs
  split at h
  ·rename_i n m' hx hy
   have hc := opn_c hE hx
   have hc' := opn_c hE hy
   generalize hv : a.eval x = v at hc
   generalize hv' : a.eval y = v' at hc'
   cases hc; cases hc'
   refine ⟨_, _, h, .int .nl, fun w' _ => ?_⟩
   unfold execOp; rw [ho]; simp [resolve, invoke, builtin, hv, hv', Builtin.min_, Builtin.min2]
   omega
  ·exact h.elim
 ·exact h.elim
theorem Y1_sound (hT : TabOk P tab) (hE : ER F w.heap ⟨E.B, γ⟩ s.env a) (hW : WR E F γ s.ah w.heap) (h : Y1 tab s o.op k) : Yd P F ⟨E.B, γ⟩ a w o k := by
 generalize ho : o.op = op at h
 cases op with
 | move x => exact y_move hE (.inl ho) h
 | assign x => exact y_move hE (.inr ho) h
 | pick c x y => exact y_pick hE ho h
 | load t x => exact y_load hT hE hW ho h
 | nilCheck x => exact y_nilCheck hE ho h
 | binOp op t x y u => exact y_binOp hT hE hW ho h
 | unOp u t x => exact y_unOp hE ho h
 | convert t u x => exact y_convert hT hE hW ho h
 | build t parts => exact y_build hT hE ho h
 | fieldAddr t x i => exact y_fieldAddr hT hE ho h
 | field t x i => exact y_field hT hE ho h
 | indexAddr t x y => exact y_indexAddr hT hE hW ho h
 | index t x y => exact y_index hT hE ho h
 | slice t x lo hi mx =>
  cases mx with
  | none => exact y_slice hT hE hW ho h
  | some _ => simp only [Y1] at h
 | extract x i => exact y_extract hE ho h
 | makeFunc fn first caps => exact y_makeFunc hE ho h
 | makeInterface t x => exact y_makeInterface hT hE ho h
 | typeAssert x u t ok =>
  cases ok with
  | true => exact y_typeAssert hT hE ho h
  | false => simp only [Y1] at h
 | call c => exact y_call hT hE hW ho h
 | _ => simp only [Y1] at h
end
end Go.AM
end
/- part -/
section
namespace Go.AM
open Go Go.NB
def fz1 (ah : List B) (c : C) : List B × C :=
 match c with
 | .rw j => match ah[j]? with
  | some (.row sz α enc l) => (ah.set j (.fro sz α enc l), .ls sz α enc l)
  | some (.fro sz α enc l) => (ah, .ls sz α enc l)
  | _ => (ah, .rw j)
 | .sw sz j lo n => match ah[j]? with
  | some (.row sz' α enc l) => bif Nat.beq sz sz' then (ah.set j (.fro sz' α enc l), .ls sz' α enc ((l.drop lo).take n)) else (ah, .sw sz j lo n)
  | some (.fro sz' α enc l) => bif Nat.beq sz sz' then (ah, .ls sz' α enc ((l.drop lo).take n)) else (ah, .sw sz j lo n)
  | _ => (ah, .sw sz j lo n)
 | c => (ah, c)
def fz : List B → List C → List B × List C
 | ah, [] => (ah, [])
 | ah, c :: cs => match fz1 ah c with
  | (ah1, c1) => match fz ah1 cs with
   | (ah2, cs2) => (ah2, c1 :: cs2)
def closed1 : C → Bool
 | .int .. | .bool _ | .str _ | .raw _ | .nil | .ls .. => true
 | _ => false
def closedB : List C → Bool
 | [] => true
 | c :: cs => closed1 c && closedB cs
def fzs : List B → List (List C) → List B × List (List C)
 | ah, [] => (ah, [])
 | ah, cs :: r => match fz ah cs with
  | (ah1, cs1) => match fzs ah1 r with
   | (ah2, r2) => (ah2, cs1 :: r2)
def partsC (s : St) : Nat → List (Nat × Operand) → Option (List (List C))
 | _, [] => some []
 | i, (j, x) :: r => bif Nat.beq i j then match cellsA (opn s x), partsC s (i + 1) r with
  | some cs, some r => some (cs :: r)
  | _, _ => none
  else none
def kill (ah : List B) : C → List B
 | .rw j | .sw _ j _ _ => ah.set j .dead
 | _ => ah
def baseOf (ah : List B) : C → Option (Option LS)
 | .nil => some none
 | .rw j => match ah[j]? with
  | some (.row sz α enc l) => some (some ⟨sz, α, enc, l⟩)
  | some (.buf _ sz α enc l) => some (some ⟨sz, α, enc, l⟩)
  | _ => none
 | .sw sz j lo n => match ah[j]? with
  | some (.row sz' α enc l) => bif Nat.beq sz sz' then some (some ⟨sz', α, enc, (l.drop lo).take n⟩) else none
  | _ => none
 | _ => none
def newB (ah : List B) (c : C) (e sz : Nat) (α : Type) (enc : α → List C) (l : List α) : B := match c with
 | .rw j => match ah[j]? with
  | some (.buf t _ _ _ _) => bif Nat.beq t e then .buf t sz α enc l else .row sz α enc l
  | _ => .row sz α enc l
 | _ => .row sz α enc l
def srcOf (ah : List B) : C → Option (Option LS)
 | .nil => some none
 | .str l => some (some ⟨1, UInt8, bytesC, l⟩)
 | c => (slOf ah c).map some
def asList (de : TD) (o : Option LS) (xs : List de.α) : Prop := match o with
 | none => xs = []
 | some L => L = ⟨de.size, de.α, de.enc, xs⟩
def keepT (t : Nat) : List C → Option Nat
 | [.raw _, .nil, .ptr _ _] => some t
 | _ => none
theorem keepT_getD (t : Nat) (cs : List C) : (keepT t cs).getD t = t := by
 unfold keepT
 split <;> rfl
def nlC : C → C
 | .ls sz α enc [] => .nil
 | c => c
def Y2 (tab : Nat → Option TD) (s : St) (op : Op) (k : List B → A → Prop) : Prop :=
 match op with
 | .alloc t => match tab t with
  | some d => k (s.ah ++ [.box d.zero]) (.c (.ptr s.ah.length 0))
  | none => False
 | .box t x => match cellsA (opn s x) with
  | some cs => k (s.ah ++ [.box cs (keepT t cs)]) (.c (.ptr s.ah.length 0))
  | none => False
 | .buildSlice t n parts => match tab t with
  | some d => match d.kind with
   | .sl e => match tab e, partsC s 0 parts.toList with
    | some de, some css => match fzs s.ah css with
     | (ah, css) => bif Nat.ble 1 de.size && Nat.beq css.length n && Nat.ble (n * de.size) 16777216 && css.all (fun cs => closedB cs && Nat.beq cs.length de.size) then
       ∃ xs : List de.α, xs.map de.enc = css ∧ k (ah ++ [.row de.size de.α de.enc xs]) (.c (.rw ah.length)) else False
    | _, _ => False
   | _ => False
  | none => False
 | .makeSlice t x y => match tab t with
  | some d => match d.kind with
   | .sl e => match tab e, opn s x, opn s y with
    | some de, .c (.int .i64 p), .c (.int .i64 q) => bif closedB de.zero && Nat.beq de.zero.length de.size && Nat.ble 1 de.size && Nat.ble 1 de.bytes then
      ∃ (n : Nat) (z : de.α), (p = (n : Int) ∧ q = (n : Int)) ∧ (de.enc z).map nlC = de.zero ∧ n * de.bytes ≤ 140737488355328 ∧ k (s.ah ++ [.row de.size de.α de.enc (List.replicate n z)]) (.c (.rw s.ah.length)) else False
    | _, _, _ => False
   | _ => False
  | none => False
 | .store t x y => match tab t, opn s x, cellsA (opn s y) with
  | some d, .c (.ptr j o), some new => match s.ah[j]? with
   | some (.box cs ty) => bif Nat.beq new.length d.size && Nat.ble (o + new.length) cs.length then k (s.ah.set j (.box (cs.take o ++ new ++ cs.drop (o + new.length)) ty)) .undef else False
   | _ => False
  | some d, .c (.ep sz j i o), some new => match fz s.ah new with
   | (ah, new) => match ah[j]? with
    | some (.row sz' α enc l) => bif Nat.beq new.length d.size && Nat.beq sz sz' && closedB new then
      ∃ x x' : α, l[i]? = some x ∧ (o + new.length ≤ sz ∧ enc x' = (enc x).take o ++ new ++ (enc x).drop (o + new.length)) ∧ k (ah.set j (.row sz' α enc (l.set i x'))) .undef else False
    | _ => False
  | _, _, _ => False
 | .convert t u x => match tab t, tab u, opn s x with
  | some d, some d', .c (.str l) => match d.kind, d'.kind with
   | .str, .sl e => match tab e with
    | some de => match de.kind with
     | .int .u8 => k s.ah (.c (.ls 1 UInt8 bytesC l))
     | _ => False
    | none => False
   | _, _ => False
  | some d, some d', .c (.rw j) => match d.kind, d'.kind with
   | .sl e, .sl e' => bif Nat.beq e e' && Nat.beq t u then match tab e with
    | some de => match de.kind with
     | .int .u8 => match s.ah[j]? with
      | some (.row 1 α enc (y :: l)) => k (s.ah.set j (.fro 1 α enc (y :: l))) (.c (.ls 1 α enc (y :: l)))
      | _ => False
     | _ => False
    | none => False
    else False
   | _, _ => False
  | _, _, _ => False
 | .call c => match c.callee, c.args.toList, c.argTypes.toList with
  | .builtin .append, [x, y], [t, t2] => match tab t, tab t2 with
   | some d, some d2 => match d.kind with
    | .sl e => match tab e, opn s x, opn s y with
     | some de, .c cx, .c cy => match baseOf s.ah cx, srcOf s.ah cy with
      | some bx, some by_ => bif (match d2.kind with | .sl _ => true | .str => true | _ => false) && Nat.ble 1 de.bytes then
        ∃ xs ys : List de.α, asList de bx xs ∧ asList de by_ ys ∧ (xs.length + ys.length) * de.bytes ≤ 140737488355328 ∧ k (kill s.ah cx ++ [newB s.ah cx e de.size de.α de.enc (xs ++ ys)]) (.c (.rw s.ah.length)) else False
      | _, _ => False
     | _, _, _ => False
    | _ => False
   | _, _ => False
  | .builtin .clear, [x], [t] => match tab t with
   | some d => match d.kind with
    | .sl e => match tab e, opn s x with
     | some de, .c (.sw sz j lo n) => match s.ah[j]? with
      | some (.row sz' α enc l) => bif Nat.beq sz sz' && (Nat.beq sz de.size && Nat.ble 1 de.size && closedB de.zero) then
        ∃ z : α, enc z = de.zero ∧ lo + n ≤ l.length ∧ k (s.ah.set j (.row sz' α enc (l.take lo ++ (List.replicate n z ++ l.drop (lo + n))))) .undef else False
      | _ => False
     | _, _ => False
    | _ => False
   | none => False
  | _, _, _ => False
 | _ => False
def grows (s : St) : Op → Bool
 | .alloc _ | .box .. | .buildSlice .. | .makeSlice .. => true
 | .convert _ _ x => match opn s x with
  | .c (.rw _) => false
  | _ => true
 | .call c => match c.args.toList with
  | x :: _ => match opn s x with
   | .c .nil => true
   | _ => false
  | _ => false
 | _ => false
def apps : Op → Bool
 | .call c => match c.callee with
  | .builtin .append => true
  | _ => false
 | _ => false
def BoxKeep (s : St) (γ : List Value) (H H' : Heap) : Prop := H.size ≤ H'.size ∧ ∀ (j : Nat) (cs : List C) (ty : Option Nat) (v : Value), s.ah[j]? = some (.box cs ty) → γ[j]? = some v → ∀ q ∈ obv (.box cs ty) v, H'[q]? = H[q]?
section
variable {P : Program} {tab : Nat → Option TD} {E : En} {F : Nat → Prop} {γ : List Value} {s : St} {a : Act} {w : World} {o : Oper}
structure Step (E : En) (F : Nat → Prop) (γ : List Value) (H : Heap) (F' : Nat → Prop) (γ' : List Value) (ah' : List B) (H' : Heap) : Prop where
 wr : WR E F' γ' ah' H'
 ext : Ext F H ⟨E.B, γ⟩ F' H' ⟨E.B, γ'⟩
def Dn (P : Program) (s : St) (E : En) (F : Nat → Prop) (γ : List Value) (a : Act) (w : World) (o : Oper) (k : List B → A → Prop) : Prop :=
 ∃ nx v w' ah' x F' γ', ((nx = .value v ∨ (nx = Next.skip ∧ v = undef)) ∧ (execOp a.eval o).run P w = .ok nx w') ∧ Amb w w' ∧ k ah' x ∧ Step E F γ w.heap F' γ' ah' w'.heap ∧ RA F' w'.heap ⟨E.B, γ'⟩ x v ∧ (grows s o.op = true → Keep [] w.heap w'.heap) ∧ (apps o.op = true → BoxKeep s γ w.heap w'.heap)
theorem closed_up {H : Heap} {m m' : Md} {cs : List C} {vs : List Value} (h : RL F H m cs vs) (hc : closedB cs = true) : RL F H m' cs vs := by
 induction h with
 | nl => exact .nl
 | int _ ih => simp [closedB, closed1] at hc; exact .int (ih hc)
 | bool _ ih => simp [closedB, closed1] at hc; exact .bool (ih hc)
 | str h _ ih => simp [closedB, closed1] at hc; exact .str h (ih hc)
 | raw h _ ih => simp [closedB, closed1] at hc; exact .raw h (ih hc)
 | nil _ ih => simp [closedB, closed1] at hc; exact .nil (ih hc)
 | ls0 _ ih => simp [closedB, closed1] at hc; exact .ls0 (ih hc)
 | ls hb h1 h2 hr hz hcc _ _ ih => simp [closedB, closed1] at hc; exact .ls hb h1 h2 hr hz hcc (ih hc)
 | _ => simp [closedB, closed1] at hc
theorem RL.ptr' {H : Heap} {m : Md} {sz : Nat} {α : Type} {enc : α → List C} {l : List α} {p q : Option Addr} {n cap : Nat} (h : RL F H m [.ls sz α enc l] [.slice p n cap]) (hq : cap ≠ 0 → q = p) : RL F H m [.ls sz α enc l] [.slice q n cap] := by
 by_cases e : cap = 0
 ·obtain ⟨p', cap', e', h1, _⟩ := h.sv.slice
  cases e'
  have h1 : l.length ≤ cap := h1
  have : l = [] := List.eq_nil_of_length_eq_zero (by omega)
  subst this
  rw [e]
  exact .ls0 .nl
 ·rw [hq e]; exact h
theorem fz1_sound {H : Heap} {ah : List B} {c : C} {v : Value} (hW : WR E F γ ah H) (h : RL F H ⟨E.B, γ⟩ [c] [v]) : ∃ F', (∀ k, F k → F' k) ∧ WR E F' γ (fz1 ah c).1 H ∧ RL F' H ⟨E.B, γ⟩ [(fz1 ah c).2] [v] ∧ (fz1 ah c).1.length = ah.length := by
 have same : ∃ F', (∀ k, F k → F' k) ∧ WR E F' γ ah H ∧ RL F' H ⟨E.B, γ⟩ [c] [v] ∧ ah.length = ah.length := ⟨F, fun _ h => h, hW, h, rfl⟩
 cases c with
 | rw j =>
  cases h with
  | rw hg hqq _ =>
   cases hb : ah[j]? with
   | none => rw [show fz1 ah (.rw j) = (ah, .rw j) by simp [fz1, hb]]; exact same
   | some b =>
    cases b with
    | row sz α enc l =>
     obtain ⟨F', h1, h2, h3⟩ := hW.freeze hb
     rw [show fz1 ah (.rw j) = (ah.set j (.fro sz α enc l), .ls sz α enc l) by simp [fz1, hb]]
     exact ⟨F', h1, h2, ((h3 _ hg).up).ptr' hqq, by simp⟩
    | fro sz α enc l =>
     rw [show fz1 ah (.rw j) = (ah, .ls sz α enc l) by simp [fz1, hb]]
     exact ⟨F, fun _ h => h, hW, (RL.up (hW.br _ _ _ hb hg)).ptr' hqq, rfl⟩
    | box cs ty => rw [show fz1 ah (.rw j) = (ah, .rw j) by simp [fz1, hb]]; exact same
    | dead => rw [show fz1 ah (.rw j) = (ah, .rw j) by simp [fz1, hb]]; exact same
    | buf => rw [show fz1 ah (.rw j) = (ah, .rw j) by simp [fz1, hb]]; exact same
 | sw sz j lo n =>
  have cut : ∀ {F' : Nat → Prop} {α : Type} {enc : α → List C} {l : List α} {p q : Option Addr} {n0 cap : Nat}, lo + n ≤ n0 → (cap ≠ lo → q = p.map (·.add (lo * sz))) → RL F' H m0 [.ls sz α enc l] [.slice p n0 cap] → RL F' H ⟨E.B, γ⟩ [.ls sz α enc ((l.drop lo).take n)] [.slice q n (cap - lo)] := fun {F' α enc l p q n0 cap} hle hq hr => by
   have hn : n0 = l.length := by
    obtain ⟨p', cap', e, _⟩ := hr.sv.slice
    cases e; rfl
   by_cases e : cap = lo
   ·obtain ⟨p', cap', e', h1, _⟩ := hr.sv.slice
    cases e'
    have h1 : l.length ≤ cap := h1
    obtain rfl : n = 0 := by omega
    rw [List.take_zero, e, Nat.sub_self]
    exact .ls0 .nl
   ·have := (hr.up (m := ⟨E.B, γ⟩)).cut (x := lo) (y := lo + n) (by omega) (by omega)
    simp only [subv, if_neg e] at this
    rw [hq e]
    rw [show lo + n - lo = n by omega] at this
    exact this
  cases h with
  | sw hg hle hq _ =>
   cases hb : ah[j]? with
   | none => rw [show fz1 ah (.sw sz j lo n) = (ah, .sw sz j lo n) by simp [fz1, hb]]; exact same
   | some b =>
    cases b with
    | row sz' α enc l =>
     by_cases hz : Nat.beq sz sz' = true
     ·obtain rfl := Nat.eq_of_beq_eq_true hz
      obtain ⟨F', h1, h2, h3⟩ := hW.freeze hb
      rw [show fz1 ah (.sw sz j lo n) = (ah.set j (.fro sz α enc l), .ls sz α enc ((l.drop lo).take n)) by simp only [fz1, hb, hz, cond_true]]
      exact ⟨F', h1, h2, cut hle hq (h3 _ hg), by simp⟩
     ·rw [Bool.not_eq_true] at hz
      rw [show fz1 ah (.sw sz j lo n) = (ah, .sw sz j lo n) by simp only [fz1, hb, hz, cond_false]]
      exact same
    | fro sz' α enc l =>
     by_cases hz : Nat.beq sz sz' = true
     ·obtain rfl := Nat.eq_of_beq_eq_true hz
      rw [show fz1 ah (.sw sz j lo n) = (ah, .ls sz α enc ((l.drop lo).take n)) by simp only [fz1, hb, hz, cond_true]]
      exact ⟨F, fun _ h => h, hW, cut hle hq (hW.br _ _ _ hb hg), rfl⟩
     ·rw [Bool.not_eq_true] at hz
      rw [show fz1 ah (.sw sz j lo n) = (ah, .sw sz j lo n) by simp only [fz1, hb, hz, cond_false]]
      exact same
    | box cs ty => rw [show fz1 ah (.sw sz j lo n) = (ah, .sw sz j lo n) by simp [fz1, hb]]; exact same
    | dead => rw [show fz1 ah (.sw sz j lo n) = (ah, .sw sz j lo n) by simp [fz1, hb]]; exact same
    | buf => rw [show fz1 ah (.sw sz j lo n) = (ah, .sw sz j lo n) by simp [fz1, hb]]; exact same
 | _ => exact same
theorem frozen_ext {F F' : Nat → Prop} {H : Heap} {m : Md} (h : ∀ k, F k → F' k) : Ext F H m F' H m := ⟨h, fun _ _ _ _ h => h, fun _ h => h, fun _ _ h => h⟩
theorem fz_sound {H : Heap} : ∀ {cs : List C} {vs : List Value} {F : Nat → Prop} {ah : List B}, WR E F γ ah H → RL F H ⟨E.B, γ⟩ cs vs → ∃ F', (∀ k, F k → F' k) ∧ WR E F' γ (fz ah cs).1 H ∧ RL F' H ⟨E.B, γ⟩ (fz ah cs).2 vs ∧ (fz ah cs).1.length = ah.length
 | [], vs, F, ah, hW, h => ⟨F, fun _ h => h, hW, by cases h; exact .nl, rfl⟩
 | c :: cs, vs, F, ah, hW, h => by
  obtain ⟨v, us, rfl, h1, h2⟩ := h.uncons
  obtain ⟨F1, a1, a2, a3, a4⟩ := fz1_sound hW h1
  obtain ⟨F2, b1, b2, b3, b4⟩ := fz_sound a2 (h2.ext (frozen_ext a1))
  refine ⟨F2, fun k hk => b1 k (a1 k hk), ?_, ?_, ?_⟩
  ·unfold fz; exact b2
  ·unfold fz; exact (a3.ext (frozen_ext b1)).cons b3
  ·unfold fz; exact b4.trans a4
inductive RLL (F : Nat → Prop) (H : Heap) (m : Md) : List (List C) → List (List Value) → Prop
 | nil : RLL F H m [] []
 | cons {cs vs css vss} : RL F H m cs vs → RLL F H m css vss → RLL F H m (cs :: css) (vs :: vss)
theorem RLL.ext {F F' : Nat → Prop} {H H' : Heap} {m m' : Md} (e : Ext F H m F' H' m') {css : List (List C)} {vss : List (List Value)} (h : RLL F H m css vss) : RLL F' H' m' css vss := by
 induction h with
 | nil => exact .nil
 | cons h _ ih => exact .cons (h.ext e) ih
theorem fzs_sound {H : Heap} : ∀ {css : List (List C)} {vss : List (List Value)} {F : Nat → Prop} {ah : List B}, WR E F γ ah H → RLL F H ⟨E.B, γ⟩ css vss → ∃ F', (∀ k, F k → F' k) ∧ WR E F' γ (fzs ah css).1 H ∧ RLL F' H ⟨E.B, γ⟩ (fzs ah css).2 vss ∧ (fzs ah css).1.length = ah.length
 | [], vss, F, ah, hW, h => ⟨F, fun _ h => h, hW, by cases h; exact .nil, rfl⟩
 | cs :: css, _, F, ah, hW, .cons (vs := vs) (vss := vss) h1 h2 => by
  obtain ⟨F1, a1, a2, a3, a4⟩ := fz_sound hW h1
  obtain ⟨F2, b1, b2, b3, b4⟩ := fzs_sound a2 (h2.ext (frozen_ext a1))
  refine ⟨F2, fun k hk => b1 k (a1 k hk), ?_, ?_, ?_⟩
  ·unfold fzs; exact b2
  ·unfold fzs; exact .cons (a3.ext (frozen_ext b1)) b3
  ·unfold fzs; exact b4.trans a4
end
end Go.AM
end
/- part -/
section
namespace Go.AM
open Go Go.NB
section
variable {P : Program} {tab : Nat → Option TD} {E : En} {F : Nat → Prop} {γ : List Value} {s : St} {a : Act} {w : World} {o : Oper} {k : List B → A → Prop}
theorem step_push {ah : List B} (hW : WR E F γ ah w.heap) {ob : Obj} {b : B} {g : Value} (ho : ∀ k ∈ obv b g, w.heap.size ≤ k) (hb : BR F (w.heap.push ob) ⟨E.B, γ ++ [g]⟩ b g) :
  Step E F γ w.heap F (γ ++ [g]) (ah ++ [b]) (w.heap.push ob) :=
 ⟨hW.push (Keep.push [] _ _) ho hb, hW.ext (W := []) (fun k hk => by cases hk) (Keep.push [] _ _) [g]⟩
theorem Step.frz {ah : List B} {H H' : Heap} {F F1 F' : Nat → Prop} {γ' : List Value} (h1 : ∀ k, F k → F1 k) (h : Step E F1 γ H F' γ' ah H') : Step E F γ H F' γ' ah H' :=
 ⟨h.wr, ⟨fun k hk => h.ext.f k (h1 k hk), fun b o u hb hc => h.ext.h b o u (hb.imp (h1 b) id) hc, h.ext.b, h.ext.g⟩⟩
theorem getLast_append {α : Type _} {l : List α} {x : α} {n : Nat} (h : n = l.length) : (l ++ [x])[n]? = some x := by subst h; simp
theorem d_alloc (hT : TabOk P tab) (hW : WR E F γ s.ah w.heap) {t : Nat} (ho : o.op = .alloc t) (h : Y2 tab s (.alloc t) k) : Dn P s E F γ a w o k := by
 simp only [Y2] at h
 split at h
 ·rename_i d ht
  obtain ⟨z, zs, hz, hzs, hr⟩ := hT.zero ht
  refine ⟨_, .pointer (some ⟨w.heap.size, 0, none⟩), { w with heap := w.heap.push (.cells zs.toArray t (0, 0)) }, _, _, F, γ ++ [.pointer (some ⟨w.heap.size, 0, none⟩)], ⟨.inl rfl, ?_⟩, Amb.of rfl rfl rfl, h, step_push hW (fun k hk => by simp [obv] at hk; omega) ⟨_, t, zs, rfl, by simp, hr _ _ _⟩, ?_, fun _ => Keep.push _ _ _, fun ha => by rw [ho] at ha; cases ha⟩
  ·unfold execOp; rw [ho]
   simp [Instr.alloc, hz, newVar, newRow, hzs]
  ·exact .ptr (getLast_append hW.len.symm) .nl
 ·exact h.elim
theorem d_box (hE : ER F w.heap ⟨E.B, γ⟩ s.env a) (hW : WR E F γ s.ah w.heap) {t : Nat} {x : Operand} (ho : o.op = .box t x) (h : Y2 tab s (.box t x) k) : Dn P s E F γ a w o k := by
 simp only [Y2] at h
 split at h
 ·rename_i cs hx
  obtain ⟨vs, hv, hr⟩ := opn_cells hE hx
  have e := hW.ext (W := []) (fun k hk => by cases hk) (Keep.push [] w.heap (.cells vs.toArray t (0, 0))) [.pointer (some ⟨w.heap.size, 0, none⟩)]
  refine ⟨_, .pointer (some ⟨w.heap.size, 0, none⟩), { w with heap := w.heap.push (.cells vs.toArray t (0, 0)) }, _, _, F, γ ++ [.pointer (some ⟨w.heap.size, 0, none⟩)], ⟨.inl rfl, ?_⟩, Amb.of rfl rfl rfl, h, step_push hW (fun k hk => by simp [obv] at hk; omega) ⟨_, t, vs, rfl, by simp [keepT_getD], hr.ext e⟩, ?_, fun _ => Keep.push _ _ _, fun ha => by rw [ho] at ha; cases ha⟩
  ·unfold execOp; rw [ho]
   simp [Instr.box, newVar, newRow, hv]
  ·exact .ptr (getLast_append hW.len.symm) .nl
 ·exact h.elim
theorem partsC_sound {H : Heap} {m : Md} (hE : ER F H m s.env a) : ∀ {l : List (Nat × Operand)} {i : Nat} {css : List (List C)}, partsC s i l = some css →
  ∃ vs : List Value, l.map (fun p => (p.1, a.eval p.2)) = (vs.zipIdx i).map (fun x => (x.2, x.1)) ∧ RLL F H m css (vs.map fun v => v.cells.toList)
 | [], i, css, h => by cases h; exact ⟨[], rfl, .nil⟩
 | (j, x) :: l, i, css, h => by
  unfold partsC at h
  by_cases hij : Nat.beq i j = true
  ·rw [hij] at h
   obtain rfl := Nat.eq_of_beq_eq_true hij
   simp only [cond_true] at h
   split at h
   ·rename_i cs r hx hr
    cases h
    obtain ⟨vs, h1, h2⟩ := partsC_sound hE hr
    obtain ⟨us, h3, h4⟩ := opn_cells hE hx
    refine ⟨a.eval x :: vs, by simp [h1], ?_⟩
    rw [List.map_cons]
    exact .cons (by rw [h3]; exact h4) h2
   ·cases h
  ·rw [Bool.not_eq_true] at hij; rw [hij] at h; cases h
theorem RLL.flat {H : Heap} {m : Md} {css : List (List C)} {vss : List (List Value)} (h : RLL F H m css vss) : RL F H m css.flatten vss.flatten := by
 induction h with
 | nil => exact .nl
 | cons h1 _ ih => simp only [List.flatten_cons]; exact h1.append ih
theorem RLL.len {H : Heap} {m : Md} {css : List (List C)} {vss : List (List Value)} (h : RLL F H m css vss) : css.length = vss.length ∧ ∀ (i : Nat) (cs : List C) (vs : List Value), css[i]? = some cs → vss[i]? = some vs → cs.length = vs.length := by
 induction h with
 | nil => exact ⟨rfl, fun i cs vs h => by simp at h⟩
 | cons h1 _ ih =>
  refine ⟨by simp [ih.1], fun i cs vs hc hv => ?_⟩
  cases i with
  | zero => cases hc; cases hv; exact h1.length
  | succ i => exact ih.2 i cs vs (by simpa using hc) (by simpa using hv)
theorem run_buildSlice {t e n size : Nat} {parts : Array (Nat × Value)} {vs : List Value} {z : Value} (ht : P.underlying t = some (.slice e)) (hz : ∀ w, (sizeOf e).run P w = .ok size w) (hzero : ∀ w, (zeroValue e).run P w = .ok z w)
  (hp : parts.toList = (vs.zipIdx 0).map (fun x => (x.2, x.1))) (hn : vs.length = n) (hsm : n * size ≤ 16777216) (hv : ∀ v ∈ vs, v.cells.size = size) (w : World) :
  (Instr.buildSlice t n parts).run P w = .ok (.slice (some ⟨w.heap.size, 0, none⟩) n n) { w with heap := w.heap.push (.cells (vs.map fun v => v.cells.toList).flatten.toArray e (0, 0)) } := by
 have hbig : ¬ 16777216 < n * size := by omega
 have hfill := fun (cur : Array Value) (hc : cur.size = n * size) => fill_all size vs 0 cur hv (by rw [hc]; simp [hn])
 by_cases h0 : n * size = 0
 ·have := hfill (Array.map (fun _ => default) (Array.range 0)) (by simp [h0])
  rw [← hp] at this
  simp [Instr.buildSlice, run_underlying ht, hz, h0, newRow]
  simp at this
  rw [this]
  have e0 : (Array.map (fun _ => (default : Value)) (Array.range 0)).toList = [] := by rw [Array.range_zero']; simp
  simp
 ·have := hfill ((Array.range (n * size)).map (fun x => z.cells[x % z.cells.size]!)) (by simp)
  rw [← hp] at this
  simp [Instr.buildSlice, run_underlying ht, hz, hbig, h0, hzero, newRow]
  simp at this
  rw [this]
  simp only [hn]
  rw [List.drop_eq_nil_of_le (by simp), List.append_nil]
  rfl
theorem enc_map {α : Type} {enc : α → List C} {xs : List α} : (xs.map enc).flatten = xs.flatMap enc := by
 rw [List.flatMap_def]
theorem closed_append : ∀ {a b : List C}, closedB a = true → closedB b = true → closedB (a ++ b) = true
 | [], b, _, hb => hb
 | c :: a, b, ha, hb => by
  simp only [closedB, List.cons_append, Bool.and_eq_true] at ha ⊢
  exact ⟨ha.1, closed_append ha.2 hb⟩
theorem closed_flatten : ∀ {css : List (List C)}, (∀ cs ∈ css, closedB cs = true) → closedB css.flatten = true
 | [], _ => rfl
 | cs :: r, h => closed_append (h cs (by simp)) (closed_flatten fun x hx => h x (by simp [hx]))
theorem d_buildSlice (hT : TabOk P tab) (hE : ER F w.heap ⟨E.B, γ⟩ s.env a) (hW : WR E F γ s.ah w.heap) {t n : Nat} {parts : Array (Nat × Operand)} (ho : o.op = .buildSlice t n parts) (h : Y2 tab s (.buildSlice t n parts) k) : Dn P s E F γ a w o k := by
 simp only [Y2] at h
 split at h
 ·rename_i d ht
  have hk := hT.kind t d ht
  split at h
  ·rename_i e hd
   rw [hd] at hk
   split at h
   ·rename_i _ _ de css hde hp
    obtain ⟨vs, hvs, hr⟩ := partsC_sound hE hp
    obtain ⟨F1, hF1, hW1, hr1, hl1⟩ := fzs_sound hW hr
    generalize hfz : fzs s.ah css = fr at h hW1 hr1 hl1
    obtain ⟨ah1, css1⟩ := fr
    simp only [] at h hW1 hr1 hl1
    obtain ⟨hc, xs, hxs, h⟩ := bguard h
    simp only [Bool.and_eq_true, List.all_eq_true] at hc
    obtain ⟨⟨⟨hc0, hc1⟩, hc2⟩, hc3⟩ := hc
    have hc0 := Nat.le_of_ble_eq_true hc0
    have hc1 := Nat.eq_of_beq_eq_true hc1
    have hc2 := Nat.le_of_ble_eq_true hc2
    have hsz := hT.size hde
    obtain ⟨z, zs, hz, _, _⟩ := hT.zero hde
    have hlen := hr1.len
    have hvl : vs.length = n := by have := hlen.1; rw [List.length_map] at this; omega
    have hvc : ∀ v ∈ vs, v.cells.size = de.size := fun v hv => by
     obtain ⟨i, hi, rfl⟩ := List.getElem_of_mem hv
     have hi' : i < css1.length := by rw [hc1]; omega
     have h1 := hlen.2 i css1[i] (vs[i].cells.toList) (List.getElem?_eq_getElem hi') (by simp [List.getElem?_eq_getElem hi])
     have h2 := Nat.eq_of_beq_eq_true (hc3 _ (List.getElem_mem hi')).2
     rw [h2] at h1
     simpa using h1.symm
    have hcl : closedB (xs.flatMap de.enc) = true := by
     rw [← enc_map, hxs]
     exact closed_flatten fun cs hcs => (hc3 cs hcs).1
    have hflat : RL F1 w.heap m0 (xs.flatMap de.enc) (vs.map fun v => v.cells.toList).flatten := by
     have := hr1.flat
     rw [← hxs, enc_map] at this
     exact closed_up this hcl
    have hxl : xs.length = n := by rw [← hc1, ← hxs, List.length_map]
    have hne : ∀ x ∈ xs, (de.enc x).length = de.size := fun x hx => by
     have := (hc3 (de.enc x) (by rw [← hxs]; exact List.mem_map.2 ⟨x, hx, rfl⟩)).2
     exact Nat.eq_of_beq_eq_true this
    have hfl := hflat.length
    rw [flat_length hne, hxl] at hfl
    have hnm : n ≤ maxLen := by
     have : n * 1 ≤ n * de.size := Nat.mul_le_mul_left _ hc0
     unfold maxLen; omega
    have hpl : (parts.map fun x => match x with | (i, x) => (i, a.eval x)).toList = (vs.zipIdx 0).map (fun x => (x.2, x.1)) := by
     rw [Array.toList_map]; exact hvs
    have hrun := run_buildSlice hk hsz hz hpl hvl hc2 hvc w
    generalize (vs.map fun v => v.cells.toList).flatten = ws at hrun hflat hfl
    have ex := hW1.ext (W := []) (fun k hk => by cases hk) (Keep.push [] w.heap (.cells ws.toArray e (0, 0))) [.slice (some ⟨w.heap.size, 0, none⟩) n n]
    have hbr : BR F1 (w.heap.push (.cells ws.toArray e (0, 0))) ⟨E.B, γ ++ [.slice (some ⟨w.heap.size, 0, none⟩) n n]⟩ (.row de.size de.α de.enc xs) (.slice (some ⟨w.heap.size, 0, none⟩) n n) := by
     cases n with
     | zero => exact .inl ⟨_, rfl, List.eq_nil_of_length_eq_zero hxl⟩
     | succ n =>
     refine .inr ⟨w.heap.size, 0, n, ws.toArray, e, ws, by rw [hxl], by simp, by omega, hnm, ?_, hflat.ext ex.m0, hne, ?_⟩
     ·rw [Nat.zero_add, hfl]; exact Nat.le_refl _
     ·show (ws.drop 0).take ws.length = ws
      rw [List.drop_zero, List.take_length]
    refine ⟨_, .slice (some ⟨w.heap.size, 0, none⟩) n n, { w with heap := w.heap.push (.cells ws.toArray e (0, 0)) }, _, _, F1, γ ++ [.slice (some ⟨w.heap.size, 0, none⟩) n n], ⟨.inl rfl, ?_⟩, Amb.of rfl rfl rfl, h,
     Step.frz hF1 (step_push hW1 (fun k hk => by cases n <;> simp [obv] at hk; omega) hbr), ?_, fun _ => Keep.push _ _ _, fun ha => by rw [ho] at ha; cases ha⟩
    ·unfold execOp; rw [ho]
     simp [hrun]
    ·exact .rw (getLast_append (by rw [hl1]; exact hW.len.symm)) (fun _ => rfl) .nl
   ·exact h.elim
  ·exact h.elim
 ·exact h.elim
theorem zeros_flat {zs : List Value} {size : Nat} (hzl : zs.length = size) (hpos : 0 < size) (n : Nat) :
  ((Array.range (n * size)).map (fun j => zs.toArray[j % zs.toArray.size]!)).toList = (List.replicate n zs).flatten := by
 have key : ∀ (n j : Nat) (h : j < n * size), ((List.replicate n zs).flatten)[j]? = zs[j % size]? := by
  intro n
  induction n with
  | zero => intro j h; simp at h
  | succ n ih =>
   intro j h
   rw [List.replicate_succ, List.flatten_cons]
   by_cases hjl : j < zs.length
   ·rw [List.getElem?_append_left hjl, Nat.mod_eq_of_lt (by omega)]
   ·rw [List.getElem?_append_right (by omega), hzl, ih _ (by rw [Nat.succ_mul] at h; omega)]
    congr 1
    rw [Nat.mod_eq_sub_mod (show j ≥ size by omega)]
 refine List.ext_getElem? fun j => ?_
 by_cases hj : j < n * size
 ·have hm : j % size < zs.length := by rw [hzl]; exact Nat.mod_lt _ hpos
  rw [key n j hj, List.getElem?_eq_getElem hm]
  simp [hj, hzl]
  rw [List.getElem?_eq_getElem hm]
  rfl
 ·rw [List.getElem?_eq_none (by simp; omega), List.getElem?_eq_none (by simp [hzl]; omega)]
theorem run_makeSlice {t e : TypeId} {i : TypeInfo} {z : Value} {size n : Nat} {zs : List Value} (ht : P.underlying t = some (.slice e)) (hi : ∀ w, (typeInfo e).run P w = .ok i w) (hsz : i.size = size) (hz : i.zero = some z) (hzs : z.cells = zs.toArray) (hzl : zs.length = size) (hpos : 0 < size)
  (hfit : (n : Int) * i.bytes ≤ 140737488355328) (hsm : (n : Int) ≤ 9223372036854775807) (w : World) :
  (Instr.makeSlice t (.int .i64 n) (.int .i64 n)).run P w = .ok (.slice (some ⟨w.heap.size, 0, none⟩) n n) { w with heap := w.heap.push (.cells (List.replicate n zs).flatten.toArray e (0, 0)) } := by
 have hsizeOf : ∀ w, (sizeOf e).run P w = .ok size w := fun w => by simp [sizeOf, hi, hsz]
 have hzero : ∀ w, (zeroValue e).run P w = .ok z w := fun w => by simp [zeroValue, hi, hz]
 have hwrap : IntKind.i64.wrap (n : Int) = n := IntWalk.i64_in _ (by omega)
 have h1 : ¬ (n : Int) < 0 := by omega
 have h2 : ¬ (281474976710656 : Int) < i.bytes * n := by rw [Int.mul_comm]; omega
 by_cases h0 : n * size = 0
 ·have hn0 : n = 0 := by rcases Nat.mul_eq_zero.1 h0 with h | h <;> omega
  have hw0 : IntKind.i64.wrap 0 = 0 := IntWalk.i64_in _ (by omega)
  subst hn0
  simp [Instr.makeSlice, run_underlying ht, Go.asInt, asIntOf, hi, hw0, hsizeOf, newRow]
  rw [Array.range_zero']
  simp
 ·have := zeros_flat hzl hpos n
  simp [Instr.makeSlice, run_underlying ht, Go.asInt, asIntOf, hi, hwrap, h1, h2, hsizeOf, h0, hzero, newRow]
  rw [← this, Array.toArray_toList, hzs]
theorem replicate_flat {α : Type} {enc : α → List C} {z : α} {zs : List Value} {F : Nat → Prop} {H : Heap} {m : Md} (h : RL F H m (enc z) zs) : ∀ n, RL F H m ((List.replicate n z).flatMap enc) (List.replicate n zs).flatten
 | 0 => .nl
 | n + 1 => by rw [List.replicate_succ, List.flatMap_cons, List.replicate_succ, List.flatten_cons]; exact h.append (replicate_flat h n)
theorem RL.of_nl {F : Nat → Prop} {H : Heap} {m : Md} : ∀ {cs : List C} {vs : List Value}, RL F H m (cs.map nlC) vs → RL F H m cs vs
 | [], vs, h => h
 | c :: cs, vs, h => by
  rw [List.map_cons] at h
  obtain ⟨v, us, rfl, h1, h2⟩ := h.uncons
  refine RL.cons ?_ (RL.of_nl h2)
  unfold nlC at h1
  split at h1
  ·cases h1 with
   | nil t => cases t; exact .ls0 .nl
  ·exact h1
theorem d_makeSlice (hT : TabOk P tab) (hE : ER F w.heap ⟨E.B, γ⟩ s.env a) (hW : WR E F γ s.ah w.heap) {t : Nat} {x y : Operand} (ho : o.op = .makeSlice t x y) (h : Y2 tab s (.makeSlice t x y) k) : Dn P s E F γ a w o k := by
 simp only [Y2] at h
 split at h
 ·rename_i d ht
  have hk := hT.kind t d ht
  split at h
  ·rename_i e hd
   rw [hd] at hk
   split at h
   ·rename_i _ _ _ de p q hde hx hy
    obtain ⟨hc, n, z, ⟨rfl, rfl⟩, hez, hfit, h⟩ := bguard h
    simp only [Bool.and_eq_true] at hc
    obtain ⟨⟨⟨hc1, hc2⟩, hc3⟩, hc4⟩ := hc
    have hc2 := Nat.eq_of_beq_eq_true hc2
    have hc3 := Nat.le_of_ble_eq_true hc3
    have hc4 := Nat.le_of_ble_eq_true hc4
    obtain ⟨i, zv, zs, hi, hsz, hby, hz, hzs, hr⟩ := hT.info e de hde
    have hzl : zs.length = de.size := by rw [← (hr F w.heap m0).length]; exact hc2
    have hvx := opn_c hE hx
    have hvy := opn_c hE hy
    generalize hv : a.eval x = v at hvx
    generalize hv' : a.eval y = v' at hvy
    cases hvx; cases hvy
    have hib : (n : Int) * i.bytes ≤ 140737488355328 := by rw [hby, ← Int.natCast_mul]; omega
    have hnb : n ≤ n * de.bytes := Nat.le_mul_of_pos_right _ hc4
    have hnm : n ≤ maxLen := by unfold maxLen; omega
    have hrun := run_makeSlice (P := P) (n := n) hk hi hsz hz hzs hzl hc3 hib (by omega) w
    have hflat : RL F w.heap m0 ((List.replicate n z).flatMap de.enc) (List.replicate n zs).flatten := replicate_flat (RL.of_nl (by rw [hez]; exact hr _ _ _)) n
    have hne : ∀ x ∈ List.replicate n z, (de.enc x).length = de.size := fun x hx => by rw [(List.mem_replicate.1 hx).2, ← List.length_map (as := de.enc z) nlC, hez]; exact hc2
    have hfl := hflat.length
    rw [flat_length hne, List.length_replicate] at hfl
    generalize (List.replicate n zs).flatten = ws at hrun hflat hfl
    have ex := hW.ext (W := []) (fun k hk => by cases hk) (Keep.push [] w.heap (.cells ws.toArray e (0, 0))) [.slice (some ⟨w.heap.size, 0, none⟩) n n]
    have hbr : BR F (w.heap.push (.cells ws.toArray e (0, 0))) ⟨E.B, γ ++ [.slice (some ⟨w.heap.size, 0, none⟩) n n]⟩ (.row de.size de.α de.enc (List.replicate n z)) (.slice (some ⟨w.heap.size, 0, none⟩) n n) := by
     cases n with
     | zero => exact .inl ⟨_, rfl, rfl⟩
     | succ n =>
     refine .inr ⟨w.heap.size, 0, n, ws.toArray, e, ws, by rw [List.length_replicate], by simp, by simp, hnm, ?_, hflat.ext ex.m0, hne, ?_⟩
     ·rw [Nat.zero_add, hfl]; exact Nat.le_refl _
     ·show (ws.drop 0).take ws.length = ws
      rw [List.drop_zero, List.take_length]
    refine ⟨_, .slice (some ⟨w.heap.size, 0, none⟩) n n, { w with heap := w.heap.push (.cells ws.toArray e (0, 0)) }, _, _, F, γ ++ [.slice (some ⟨w.heap.size, 0, none⟩) n n], ⟨.inl rfl, ?_⟩, Amb.of rfl rfl rfl, h,
     step_push hW (fun k hk => by cases n <;> simp [obv] at hk; omega) hbr, ?_, fun _ => Keep.push _ _ _, fun ha => by rw [ho] at ha; cases ha⟩
    ·unfold execOp; rw [ho]
     simp [hv, hv', hrun]
    ·exact .rw (getLast_append hW.len.symm) (fun _ => rfl) .nl
   ·exact h.elim
  ·exact h.elim
 ·exact h.elim
end
end Go.AM
end
