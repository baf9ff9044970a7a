/- THE ABSTRACT MACHINE, part 6: parts of slices, conversions, lengths; all operations that leave memory as it is. -/
import Derived.Test.YtgbppkcebaoebaaAm5
import Derived.Laws.IdiomStrings
namespace Go.AM
open Go Go.NB
set_option linter.unusedVariables false
set_option linter.unusedSimpArgs false

section
variable {P : Program} {tab : Nat → Option TD} {E : En} {F : Nat → Prop} {γ : List Value} {s : St} {a : Act} {w : World} {o : Oper} {k : A → Prop}

theorem subv_slice (sz lo n : Nat) (p : Option Addr) (n0 cap : Nat) : subv sz lo n (.slice p n0 cap) = .slice (if cap = lo then p else p.map (·.add (lo * sz))) n (cap - lo) := rfl

theorem add_add_lit (b o x y : Nat) : ((⟨b, o, none⟩ : Addr).add x).add y = (⟨b, o, none⟩ : Addr).add (x + y) := by
  rw [Addr.add_lit, Addr.add_lit, Addr.add_lit, Nat.add_assoc]

theorem y_slice (hT : TabOk P tab) (hE : ER F w.heap ⟨E.B, γ⟩ s.env a) (hW : WR E F γ s.ah w.heap) {t : Nat} {x : Operand} {lo hi : Option Operand} (ho : o.op = .slice t x lo hi none) (h : Y1 tab s (.slice t x lo hi none) k) : Yd P F ⟨E.B, γ⟩ a w o k := by
  simp only [Y1] at h
  split at h
  · rename_i d lo' hi' ht hlo hhi
    have hk := hT.kind t d ht
    have hlo := asInt?_of hE hlo
    have hhi := asInt?_of hE hhi
    have run : ∀ {p r : Value} {l2 h2 : Option Nat}, lo' = l2.map (fun a => ((a : Nat) : Int)) → hi' = h2.map (fun a => ((a : Nat) : Int)) → a.eval x = p →
        (∀ w, (Instr.sliceAt t p (l2.map fun x => .int .i64 (x : Nat)) (h2.map fun x => .int .i64 (x : Nat)) none).run P w = .ok r w) → ∀ w', (execOp a.eval o).run P w' = .ok (.value r) w' := fun {p r l2 h2} e1 e2 hp h1 w' => by
      have g1 : lo.map a.eval = l2.map fun x => .int .i64 (x : Nat) := by rw [hlo, e1, Option.map_map]; rfl
      have g2 : hi.map a.eval = h2.map fun x => .int .i64 (x : Nat) := by rw [hhi, e2, Option.map_map]; rfl
      unfold execOp; rw [ho]
      simp [g1, g2, hp, h1]
    split at h
    · rename_i hd
      rw [hd] at hk
      split at h
      · rename_i l hx
        have hc := opn_c hE hx
        obtain ⟨x1, y1, h, h1, h2, l2, h3, e1, e2, e3, e4⟩ := bounds_of h
        generalize hv : a.eval x = v at hc
        cases hc with
        | str hl _ =>
          refine ⟨_, _, h, .str (by rw [List.length_drop, List.length_take]; omega) .nl, fun w' _ => run e1 e2 hv (fun w => ?_) w'⟩
          have := run_sliceStr hk l l2 h3 (by rw [e3, e4]; exact h1) (by rw [e4]; exact h2) w
          rw [e3, e4] at this
          exact this
      · exact h.elim
    · rename_i e hd
      rw [hd] at hk
      split at h
      · rename_i _ _ de c hde hx
        have hc := opn_c hE hx
        have hz := hT.size hde
        split at h
        · obtain ⟨x1, y1, h, h1, h2, l2, h3, e1, e2, e3, e4⟩ := bounds_of h
          obtain rfl : y1 = 0 := by omega
          obtain rfl : x1 = 0 := by omega
          generalize hv : a.eval x = v at hc
          cases hc
          refine ⟨_, _, h, .nil .nl, fun w' _ => run e1 e2 hv (fun w => ?_) w'⟩
          have := run_sliceAt' hk hz none 0 0 l2 h3 (by rw [e3, e4]; omega) (by rw [e4]; omega) w
          rw [e3, e4] at this
          simpa using this
        · rename_i sz α enc l
          obtain ⟨hsz, h'⟩ := bguard h
          obtain rfl := Nat.eq_of_beq_eq_true hsz
          obtain ⟨x1, y1, h', h1, h2, l2, h3, e1, e2, e3, e4⟩ := bounds_of h'
          obtain ⟨p, cap, hv, g1, g2⟩ := hc.sv.slice
          have g1 : l.length ≤ cap := g1
          rw [hv] at hc
          refine ⟨_, _, h', hc.cut h1 h2, fun w' _ => run e1 e2 hv (fun w => ?_) w'⟩
          have := run_sliceAt' hk hz p l.length cap l2 h3 (by rw [e3, e4]; exact h1) (by rw [e4]; omega) w
          rw [e3, e4] at this
          exact this
        · rename_i sz α enc l
          obtain ⟨hsz, h'⟩ := bguard h
          obtain rfl := Nat.eq_of_beq_eq_true hsz
          obtain ⟨x1, y1, h', h1, h2, l2, h3, e1, e2, e3, e4⟩ := bounds_of h'
          have hs : SV F w.heap ⟨_, α, enc, l⟩ (a.eval x) := hW.sl hc rfl
          obtain ⟨p, cap, hv, g1, g2⟩ := hs.slice
          have g1 : l.length ≤ cap := g1
          rw [hv] at hc hs
          refine ⟨_, _, h', RL.cutb hs hc h1 h2, fun w' _ => run e1 e2 hv (fun w => ?_) w'⟩
          have := run_sliceAt' hk hz p l.length cap l2 h3 (by rw [e3, e4]; exact h1) (by rw [e4]; omega) w
          rw [e3, e4] at this
          exact this
        · rename_i j
          split at h
          · rename_i L hL
            rw [LS.on_eq] at h
            obtain ⟨hsz, h'⟩ := bguard h
            have hsz := Nat.eq_of_beq_eq_true hsz
            obtain ⟨x1, y1, h', h1, h2, l2, h3, e1, e2, e3, e4⟩ := bounds_of h'
            have hs : SV F w.heap L (a.eval x) := hW.sl hc hL
            obtain ⟨p, cap, hv, g1, g2⟩ := hs.slice
            rw [hv] at hc
            cases hc with
            | rw hg hqq _ =>
              refine ⟨_, _, h', .sw (q := if cap = x1 then p else p.map (·.add (x1 * L.sz))) hg (by omega) (fun e => by rw [if_neg e, hqq (by omega)]) .nl, fun w' _ => run e1 e2 hv (fun w => ?_) w'⟩
              have := run_sliceAt' hk hz p L.l.length cap l2 h3 (by rw [e3, e4]; exact h1) (by rw [e4]; omega) w
              rw [e3, e4] at this
              rw [hsz]
              exact this
          · exact h.elim
        · rename_i sz j l0 n0
          split at h
          · rename_i L hL
            obtain ⟨hsz, h'⟩ := bguard h
            obtain rfl := Nat.eq_of_beq_eq_true hsz
            obtain ⟨x1, y1, h', h1, h2, l2, h3, e1, e2, e3, e4⟩ := bounds_of h'
            have hs : ∀ v, RL F w.heap ⟨E.B, γ⟩ [.rw j] [v] → SV F w.heap L v := fun v hv => hW.sl hv hL
            generalize hv : a.eval x = v at hc
            cases hc with
            | @sw _ _ _ _ _ p q nn cap _ _ hg hle hq _ =>
              obtain ⟨p', cap', he, g1, g2⟩ := (hs _ (.rw hg (fun _ => rfl) .nl)).slice
              cases he
              refine ⟨_, _, h', .sw (q := if cap - l0 = x1 then q else q.map (·.add (x1 * de.size))) hg (by omega) (fun e => ?_) .nl, fun w' _ => run e1 e2 hv (fun w => ?_) w'⟩
              · rw [if_neg (by omega)]
                by_cases q1 : cap = l0
                · obtain rfl : x1 = 0 := by omega
                  omega
                · rw [hq q1, Nat.add_mul]
                  rcases hs _ (.rw hg (fun _ => rfl) .nl) with ⟨p', e5, _⟩ | ⟨b, off, cap', css, e5, _⟩
                  · simp at e5; omega
                  · simp at e5
                    obtain ⟨rfl, rfl⟩ := e5
                    simp [Addr.add_lit, Nat.add_assoc]
              · have := run_sliceAt' hk hz q n0 (cap - l0) l2 h3 (by rw [e3, e4]; exact h1) (by rw [e4]; omega) w
                rw [e3, e4] at this
                rw [this, Nat.sub_sub]
          · exact h.elim
        · exact h.elim
      · exact h.elim
    · exact h.elim
  · exact h.elim

theorem bytes_flat {H : Heap} {m : Md} : ∀ (l : List UInt8) {css : List Value}, RL F H m (l.flatMap bytesC) css → css = l.map bv
  | [], css, h => by cases h; rfl
  | b :: l, css, h => by
    rw [List.flatMap_cons] at h
    cases h with
    | int t => rw [bytes_flat l t]; rfl

theorem y_convert (hT : TabOk P tab) (hE : ER F w.heap ⟨E.B, γ⟩ s.env a) (hW : WR E F γ s.ah w.heap) {t u : Nat} {x : Operand} (ho : o.op = .convert t u x) (h : Y1 tab s (.convert t u x) k) : Yd P F ⟨E.B, γ⟩ a w o k := by
  simp only [Y1] at h
  split at h
  · rename_i _ _ _ d d' c ht hu hx
    have hk := hT.kind t d ht
    have hk' := hT.kind u d' hu
    have hc := opn_c hE hx
    unfold convC at h
    have run : ∀ {p r : Value} (w' : World), a.eval x = p → (convert t u p).run P w' = .ok r w' → (execOp a.eval o).run P w' = .ok (.value r) w' := fun w' hp h1 => by
      unfold execOp; rw [ho]; simp [hp, h1]
    split at h
    · rename_i q1 q2 q3 n h1 h2
      rw [h1] at hk
      rw [h2] at hk'
      generalize hv : a.eval x = v at hc
      cases hc with
      | int _ => exact ⟨_, _, h, .int .nl, fun w' _ => run w' hv (by simp [convert, run_underlying hk, run_underlying hk', Conv.intToInt])⟩
    · rename_i l h1 h2
      rw [h1] at hk
      rw [h2] at hk'
      generalize hv : a.eval x = v at hc
      cases hc with
      | str hl _ => exact ⟨_, _, h, .str hl .nl, fun w' _ => run w' hv (by simp [convert, run_underlying hk, run_underlying hk', NB.str])⟩
    · rename_i e h1 h2
      rw [h1] at hk
      rw [h2] at hk'
      split at h
      · rename_i de hde
        have hke := hT.kind e de hde
        split at h
        · rename_i h3
          rw [h3] at hke
          generalize hv : a.eval x = v at hc
          cases hc
          refine ⟨_, _, h, .str (by simp) .nl, fun w' _ => run w' hv ?_⟩
          rw [run_convert_bytes_string w' t u e none 0 0 hk hke hk']
          rfl
        · have h3 : de.kind = .int .u8 := by assumption
          rw [h3] at hke
          obtain ⟨l, hL, h⟩ := h
          have hs := hW.sl hc hL
          refine ⟨_, _, h, .str (by
            rcases hs with ⟨p, hv, hl⟩ | ⟨b, off, cap, css, hv, g1, g2, hr, hz, hcc⟩
            · have hl : l = [] := hl
              rw [hl]; simp
            · have g1 : l.length ≤ cap := g1
              have g2 : cap ≤ 9223372036854775807 := g2
              omega) .nl, fun w' hk2 => run w' rfl ?_⟩
          have hk2 : Keep [] w.heap w'.heap := hk2.resolve_left (by rw [ho]; simp [isN])
          rcases hs with ⟨p, hv, hl⟩ | ⟨b, off, cap, css, hv, g1, g2, hr, hz, hcc⟩
          · rw [hv]
            have hl : l = [] := hl
            subst hl
            rw [run_convert_bytes_string w' t u e _ _ _ hk hke hk']
            cases p with
            | none => rfl
            | some ad => exact run_bytesToString w' ad 0 0 [] (by simpa using run_loadCells_list (P := P) (w := w') ad [] (by simp))
          · rw [hv]
            have hcs : css = l.map bv := bytes_flat l hr
            exact run_convert_bytes_back w' t u e ⟨b, off, none⟩ cap l hk hke hk' (fun j hj => by
              rw [Addr.add_lit, cell?_of rfl]
              refine cell_keep (hcc j _ ?_) hk2 (by simp)
              rw [hcs]
              simp [hj, bv])
        · exact h.elim
      · exact h.elim
    · exact h.elim
  · exact h.elim

theorem RT.get {H : Heap} {m : Md} : ∀ {ts : List (Bool × List C)} {vs : List Value} {i : Nat} {g : Bool} {cs : List C}, RT F H m ts vs → ts[i]? = some (g, cs) → ∃ us, vs[i]? = some (fval g us) ∧ RL F H m cs us ∧ (g = false → cs.length = 1)
  | (_, _) :: _, v :: _, 0, g, cs, ⟨⟨us, h1, h2, h3⟩, _⟩, hi => by
    cases hi
    exact ⟨us, by rw [h2]; rfl, h1, h3⟩
  | _ :: ts, v :: vs, i + 1, g, cs, ⟨_, h⟩, hi => by
    have := RT.get (i := i) h (by simpa using hi)
    simpa using this

theorem y_extract (hE : ER F w.heap ⟨E.B, γ⟩ s.env a) {x : Operand} {i : Nat} (ho : o.op = .extract x i) (h : Y1 tab s (.extract x i) k) : Yd P F ⟨E.B, γ⟩ a w o k := by
  simp only [Y1] at h
  split at h
  · rename_i ts hx
    have hc := opn_sound hE x
    rw [hx] at hc
    obtain ⟨vs, hv, hr⟩ := hc
    split at h
    · rename_i g cs hi
      obtain ⟨us, h1, h2, h3⟩ := hr.get hi
      have run : ∀ w' : World, (execOp a.eval o).run P w' = .ok (.value (fval g us)) w' := fun w' => by
        unfold execOp; rw [ho]; simp [hv, Instr.extract, h1]
      rcases bcase h with ⟨rfl, h⟩ | ⟨rfl, h⟩
      · exact ⟨_, _, h, ⟨us, rfl, h2⟩, fun w' _ => run w'⟩
      · split at h
        · obtain ⟨v, rfl, h4⟩ := h2.single
          exact ⟨_, _, h, h4, fun w' _ => run w'⟩
        · exact h.elim
    · exact h.elim
  · exact h.elim

theorem capsC_sound {H : Heap} {m : Md} (hE : ER F H m s.env a) : ∀ {l : List Operand} {cs : List C}, capsC s l = some cs → RL F H m cs (l.map a.eval)
  | [], cs, h => by cases h; exact .nl
  | x :: l, cs, h => by
    unfold capsC at h
    split at h
    · rename_i c cs' hx hl
      cases h
      exact (opn_c hE hx).cons (capsC_sound hE hl)
    · cases h

theorem y_makeFunc (hE : ER F w.heap ⟨E.B, γ⟩ s.env a) {fn : Fn} {first caps : Array Operand} (ho : o.op = .makeFunc fn first caps) (h : Y1 tab s (.makeFunc fn first caps) k) : Yd P F ⟨E.B, γ⟩ a w o k := by
  cases fn with
  | func f =>
    simp only [Y1] at h
    split at h
    · rename_i cs hf hc
      have hf : first = #[] := by simpa using hf
      refine ⟨_, _, h, .fn (capsC_sound hE hc) .nl, fun w' _ => ?_⟩
      unfold execOp; rw [ho]
      subst hf
      simp [Instr.makeFunc]
      rw [← Array.toList_map]
    · exact h.elim
  | _ => simp only [Y1] at h

theorem y_makeInterface (hT : TabOk P tab) (hE : ER F w.heap ⟨E.B, γ⟩ s.env a) {t : Nat} {x : Operand} (ho : o.op = .makeInterface t x) (h : Y1 tab s (.makeInterface t x) k) : Yd P F ⟨E.B, γ⟩ a w o k := by
  simp only [Y1] at h
  split at h
  · rename_i d ht
    have hk := hT.kind t d ht
    have run : ∀ w' : World, (∃ ty, P.underlying t = some ty ∧ ∀ ms, ty ≠ .interface ms) → (execOp a.eval o).run P w' = .ok (.value (.iface t (a.eval x))) w' := fun w' ⟨ty, hty, hne⟩ => by
      unfold execOp; rw [ho]
      cases ty <;> first | (exact (hne _ rfl).elim) | simp [Instr.makeInterface, run_underlying hty]
    have hty : d.kind ≠ .other → ∃ ty, P.underlying t = some ty ∧ ∀ ms, ty ≠ .interface ms := fun hne => by
      revert hk
      cases hd : d.kind with
      | other => exact (hne hd).elim
      | struct offs => rintro ⟨fs, h1, _⟩; exact ⟨_, h1, fun _ h => by cases h⟩
      | ptr => rintro ⟨e, h1⟩; exact ⟨_, h1, fun _ h => by cases h⟩
      | _ => intro h1; exact ⟨_, h1, fun _ h => by cases h⟩
    split at h
    · exact h.elim
    · rename_i hne
      split at h
      · rename_i c hx
        have hc := opn_c hE hx
        exact ⟨_, _, h, .iface (us := [a.eval x]) hc .nl, fun w' _ => run w' (hty hne)⟩
      · rename_i cs hx
        obtain ⟨vs, hv, hr⟩ := opn_st hE hx
        exact ⟨_, _, h, .iface (us := vs) hr .nl, fun w' _ => by rw [run w' (hty hne), hv]; rfl⟩
      · exact h.elim
  · exact h.elim

theorem y_typeAssert (hT : TabOk P tab) (hE : ER F w.heap ⟨E.B, γ⟩ s.env a) {t u : Nat} {x : Operand} (ho : o.op = .typeAssert x u t true) (h : Y1 tab s (.typeAssert x u t true) k) : Yd P F ⟨E.B, γ⟩ a w o k := by
  simp only [Y1] at h
  split at h
  · rename_i d ht
    have hk := hT.kind t d ht
    have hty : d.kind ≠ .other → ∃ ty, P.underlying t = some ty ∧ ∀ ms, ty ≠ .interface ms := fun hne => by
      revert hk
      cases hd : d.kind with
      | other => exact (hne hd).elim
      | struct offs => rintro ⟨fs, h1, _⟩; exact ⟨_, h1, fun _ h => by cases h⟩
      | ptr => rintro ⟨e, h1⟩; exact ⟨_, h1, fun _ h => by cases h⟩
      | _ => intro h1; exact ⟨_, h1, fun _ h => by cases h⟩
    split at h
    · exact h.elim
    · rename_i hne
      split at h
      · rename_i t' g cs hx
        obtain ⟨hb, h2⟩ := bguard h
        rw [Bool.and_eq_true] at hb
        obtain rfl := Nat.eq_of_beq_eq_true hb.1
        have hc := opn_c hE hx
        generalize hv : a.eval x = v at hc
        cases hc with
        | @iface _ _ _ _ us _ _ hr _ =>
          obtain ⟨ty, hty, hne⟩ := hty hne
          refine ⟨.tuple #[fval g us, .bool true], .tup [(g, cs), (false, [.bool true])], h2, ⟨[fval g us, .bool true], rfl, ⟨us, hr, rfl, fun hg => ?_⟩, ⟨[.bool true], .bool .nl, rfl, fun _ => rfl⟩, trivial⟩, fun w' _ => ?_⟩
          · have := hb.2
            rw [hg, Bool.false_or] at this
            exact Nat.eq_of_beq_eq_true this
          · unfold execOp; rw [ho]
            cases ty <;> first | (exact (hne _ rfl).elim) | simp [Instr.typeAssert, run_underlying hty, hv]
      · exact h.elim
  · exact h.elim

theorem y_call (hT : TabOk P tab) (hE : ER F w.heap ⟨E.B, γ⟩ s.env a) (hW : WR E F γ s.ah w.heap) {c : Call} (ho : o.op = .call c) (h : Y1 tab s (.call c) k) : Yd P F ⟨E.B, γ⟩ a w o k := by
  obtain ⟨cl, args, tys⟩ := c
  simp only [Y1] at h
  have args_eq : ∀ {l : List Operand}, args.toList = l → args = l.toArray := fun h => by rw [← h]
  have tys_eq : ∀ {l : List TypeId}, tys.toList = l → tys = l.toArray := fun h => by rw [← h]
  split at h
  · rename_i x t hargs htys
    have hargs := args_eq hargs
    have htys := tys_eq htys
    subst hargs htys
    split at h
    · rename_i d c ht hx
      have hk := hT.kind t d ht
      have hc := opn_c hE hx
      split at h
      · rename_i l hd
        rw [hd] at hk
        generalize hv : a.eval x = v at hc
        cases hc with
        | str _ _ =>
          have e : (⟨l.toArray⟩ : ByteArray).size = l.length := rfl
          exact ⟨_, _, h, .int .nl, fun w' _ => by unfold execOp; rw [ho]; simp [resolve, invoke, builtin, hv, NB.str, Builtin.len_, run_underlying hk, goInt, e]⟩
      · rename_i e hd
        rw [hd] at hk
        generalize hv : a.eval x = v at hc
        cases hc
        exact ⟨_, _, h, .int .nl, fun w' _ => by unfold execOp; rw [ho]; simp [resolve, invoke, builtin, hv, Builtin.len_, run_underlying hk, goInt]⟩
      · have h3 : ∃ e, d.kind = .sl e := ⟨_, by assumption⟩
        obtain ⟨e, hd⟩ := h3
        rw [hd] at hk
        split at h
        · rename_i L hL
          rw [LS.on_eq] at h
          obtain ⟨p, cap, hv, _⟩ := (hW.sl hc hL).slice
          exact ⟨_, _, h, .int .nl, fun w' _ => by unfold execOp; rw [ho]; simp [resolve, invoke, builtin, hv, Builtin.len_, run_underlying hk, goInt]⟩
        · exact h.elim
      · exact h.elim
    · exact h.elim
  · rename_i x y hargs
    have hargs := args_eq hargs
    subst hargs
    split at h
    · rename_i n m' hx hy
      have hc := opn_c hE hx
      have hc' := opn_c hE hy
      generalize hv : a.eval x = v at hc
      generalize hv' : a.eval y = v' at hc'
      cases hc; cases hc'
      refine ⟨_, _, h, .int .nl, fun w' _ => ?_⟩
      unfold execOp; rw [ho]; simp [resolve, invoke, builtin, hv, hv', Builtin.max_, Builtin.max2]
      omega
    · exact h.elim
  · rename_i x y hargs
    have hargs := args_eq hargs
    subst hargs
    split at h
    · rename_i n m' hx hy
      have hc := opn_c hE hx
      have hc' := opn_c hE hy
      generalize hv : a.eval x = v at hc
      generalize hv' : a.eval y = v' at hc'
      cases hc; cases hc'
      refine ⟨_, _, h, .int .nl, fun w' _ => ?_⟩
      unfold execOp; rw [ho]; simp [resolve, invoke, builtin, hv, hv', Builtin.min_, Builtin.min2]
      omega
    · exact h.elim
  · exact h.elim

/-- all of them -/
theorem Y1_sound (hT : TabOk P tab) (hE : ER F w.heap ⟨E.B, γ⟩ s.env a) (hW : WR E F γ s.ah w.heap) (h : Y1 tab s o.op k) : Yd P F ⟨E.B, γ⟩ a w o k := by
  generalize ho : o.op = op at h
  cases op with
  | move x => exact y_move hE (.inl ho) h
  | assign x => exact y_move hE (.inr ho) h
  | pick c x y => exact y_pick hE ho h
  | load t x => exact y_load hT hE hW ho h
  | nilCheck x => exact y_nilCheck hE ho h
  | binOp op t x y u => exact y_binOp hT hE hW ho h
  | unOp u t x => exact y_unOp hE ho h
  | convert t u x => exact y_convert hT hE hW ho h
  | build t parts => exact y_build hT hE ho h
  | fieldAddr t x i => exact y_fieldAddr hT hE ho h
  | field t x i => exact y_field hT hE ho h
  | indexAddr t x y => exact y_indexAddr hT hE hW ho h
  | index t x y => exact y_index hT hE ho h
  | slice t x lo hi mx =>
    cases mx with
    | none => exact y_slice hT hE hW ho h
    | some _ => simp only [Y1] at h
  | extract x i => exact y_extract hE ho h
  | makeFunc fn first caps => exact y_makeFunc hE ho h
  | makeInterface t x => exact y_makeInterface hT hE ho h
  | typeAssert x u t ok =>
    cases ok with
    | true => exact y_typeAssert hT hE ho h
    | false => simp only [Y1] at h
  | call c => exact y_call hT hE hW ho h
  | _ => simp only [Y1] at h
end
end Go.AM
