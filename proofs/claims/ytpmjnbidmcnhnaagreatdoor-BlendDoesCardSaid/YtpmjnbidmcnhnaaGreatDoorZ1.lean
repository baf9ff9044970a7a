/- part -/
import Derived.Test.YtpmjnbidmcnhnaaGreatDoorL1
import Derived.Laws.Externs
import Derived.Below
import Derived.Test.YtpmjnbidmcnhnaaGreatDoorHeap
set_option linter.unusedVariables false
set_option linter.unusedSimpArgs false
section
namespace Go.AM
open Go Go.NB Go.RowKit
theorem ext_spec {d : Bool} {P : Program} {f : FuncId} {fn : Func} {e : Array Value → Sem Value} (hf : P.funcs[f]? = some fn) (hname : (fn.name == "runtime.NumGoroutine") = false) (hb : fn.body.isNone = true) (hn : Extern.findNext fn = none) (he : Extern.find fn = some e)
  {args : List A} {x : C} (hx : closed1 x = true) (h : ∀ (F : Nat → Prop) (H : Heap) (m : Md) (vs : List Value) (w : World), RAs F H m args vs → ∃ v, (e vs.toArray).run P w = .ok v w ∧ ∀ F H m, RL F H m [x] [v]) :
  DoesD d P f args [] (Rt (.c x) []) := by
 intro F L γ H vs hargs hW w hw
 obtain ⟨v, h1, h2⟩ := h F H _ vs w hargs
 rw [run_callFunc_extern hf hname hb hn he, h1]
 refine ⟨rfl, .ret (.c x), [], F, γ, ⟨rfl, rfl⟩, ?_, rfl, rfl, h2 _ _ _, ?_⟩
 ·show clean1 x = true
  cases x <;> first | rfl | cases hx
 ·subst hw; exact hW
theorem strs_of {F : Nat → Prop} {H : Heap} {m : Md} : ∀ {l : List (List UInt8)} {css : List Value}, RL F H m (l.flatMap encS) css → css = l.map NB.str
 | [], _, h => by cases h; rfl
 | x :: l, css, h => by
  rw [List.flatMap_cons] at h
  cases h with
  | str _ t => rw [strs_of t]; rfl
end Go.AM
end
/- part -/
section

namespace Go.AM
open Go Go.NB
theorem callsB {P : Program} {f : FuncId} {args : Array Value} {H : Heap} {R : Value → Heap → Prop} (h : CallsH P f args H R) : CallsP false P f args H fun ok v H' => ok = true ∧ R v H' := by
 intro w hw
 have := h w hw
 unfold UponCall at this
 unfold UponP
 split at this
 ·rename_i hr; rw [hr]; exact ⟨this.1, rfl, this.2⟩
 ·rename_i hr; rw [hr]; exact ⟨this.1, this.2.mono fun e w' ⟨v, h1, h2, h3⟩ => .inl ⟨v, h1, ⟨rfl, h2⟩, .of h3⟩⟩
 ·exact this.elim
structure Br {α : Type} (T : Ty α) (enc : α → List C) : Prop where
 len : ∀ x, (enc x).length = T.size
 to : ∀ {F : Nat → Prop} {H : Heap} {M : List Nat} {cs : List Value} {x : α}, (∀ q ∈ M, ¬ F q) → (∀ q, F q → q < H.size) → RL F H m0 (enc x) cs → T.R H M cs x
 back : ∀ {F : Nat → Prop} {H : Heap} {M : List Nat} {cs : List Value} {x : α}, (∀ q, q < H.size → q ∉ M → F q) → T.R H M cs x → RL F H m0 (enc x) cs
theorem flat_part {α : Type} {enc : α → List C} {sz : Nat} {F : Nat → Prop} {H : Heap} {l : List α} {css : List Value} (hz : ∀ x ∈ l, (enc x).length = sz) (h : RL F H m0 (l.flatMap enc) css) {i : Nat} (hi : i < l.length) :
  ∃ us, RL F H m0 (enc l[i]) us ∧ ∀ j u, us[j]? = some u → css[i * sz + j]? = some u := by
 have e : l = l.take i ++ l[i] :: l.drop (i + 1) := by rw [← List.drop_eq_getElem_cons hi, List.take_append_drop]
 have e2 : l.flatMap enc = (l.take i).flatMap enc ++ (enc l[i] ++ (l.drop (i + 1)).flatMap enc) := by
  conv => lhs; rw [e]
  rw [List.flatMap_append, List.flatMap_cons]
 rw [e2] at h
 obtain ⟨us, ws, rfl, h1, h2⟩ := h.split
 obtain ⟨us2, ws2, rfl, h3, h4⟩ := h2.split
 have hl : us.length = i * sz := by
  rw [← h1.length, flat_length fun x hx => hz x (List.mem_of_mem_take hx), List.length_take, Nat.min_eq_left (by omega)]
 refine ⟨us2, h3, fun j u hj => ?_⟩
 have hjl : j < us2.length := by
  rw [List.getElem?_eq_some_iff] at hj; exact hj.1
 rw [List.getElem?_append_right (by omega), hl, Nat.add_sub_cancel_left, List.getElem?_append_left hjl]
 exact hj
theorem flat_build {α : Type} {T : Ty α} {enc : α → List C} (hb : Br T enc) {F : Nat → Prop} {H : Heap} {M : List Nat} (hF : ∀ q, q < H.size → q ∉ M → F q) {b : Nat} : ∀ {l : List α} {off : Nat}, (∀ (i : Nat) (h : i < l.length), At T H M b (off + i * T.size) l[i]) →
  ∃ css, RL F H m0 (l.flatMap enc) css ∧ ∀ j u, css[j]? = some u → cell H b (off + j) = some u
 | [], off, _ => ⟨[], .nl, fun j u h => by simp at h⟩
 | x :: l, off, h => by
  obtain ⟨-, -, cs, h1, h2⟩ := h 0 (by simp)
  obtain ⟨css, h3, h4⟩ := flat_build hb hF (l := l) (off := off + T.size) (fun i hi => by
   have := h (i + 1) (by simpa using hi)
   rw [Nat.succ_mul] at this
   rw [show off + T.size + i * T.size = off + (i * T.size + T.size) by omega]
   exact this)
  have hl := T.len h1
  refine ⟨cs ++ css, by rw [List.flatMap_cons]; exact (hb.back hF h1).append h3, fun j u hj => ?_⟩
  by_cases hjl : j < cs.length
  ·rw [List.getElem?_append_left hjl] at hj
   have := h2 j u hj
   rwa [Nat.zero_mul, Nat.add_zero] at this
  ·rw [List.getElem?_append_right (by omega)] at hj
   have := h4 _ u hj
   rwa [show off + T.size + (j - cs.length) = off + j by omega] at this
theorem sl_to {α : Type} {T : Ty α} {enc : α → List C} (hb : Br T enc) {F : Nat → Prop} {H : Heap} {M : List Nat} (hM : ∀ q ∈ M, ¬ F q) (hF : ∀ q, F q → q < H.size) {m : Md} {l : List α} {v : Value} (h : RL F H m [.ls T.size α enc l] [v]) : Sl T H M v l := by
 cases h with
 | ls0 t => exact .inl ⟨_, rfl, rfl⟩
 | @ls _ _ _ _ _ b off cap css _ _ hB h1 h2 hr hz hc t =>
  refine .inr ⟨b, off, cap, rfl, hF b hB, fun hm => hM b hm hB, h1, h2, by unfold maxLen at h2; omega, fun i hi => ?_⟩
  obtain ⟨us, u1, u2⟩ := flat_part hz hr hi
  refine ⟨hF b hB, fun hm => hM b hm hB, us, hb.to hM hF u1, fun j u hj => ?_⟩
  rw [Nat.add_assoc]
  exact hc _ u (u2 j u hj)
theorem sl_back {α : Type} {T : Ty α} {enc : α → List C} (hb : Br T enc) {F : Nat → Prop} {H : Heap} {M : List Nat} (hF : ∀ q, q < H.size → q ∉ M → F q) {m : Md} {l : List α} {v : Value} (h : Sl T H M v l) : RL F H m [.ls T.size α enc l] [v] := by
 rcases h with ⟨p, rfl, rfl⟩ | ⟨b, off, cap, rfl, h1, h2, h3, h4, h5, h6⟩
 ·exact .ls0 .nl
 ·obtain ⟨css, c1, c2⟩ := flat_build hb hF h6
  exact .ls (hF b h1 h2) h3 h4 c1 (fun x _ => hb.len x) c2 .nl
theorem Br.byte : Br tByte bytesC where
 len := fun x => rfl
 to := fun _ _ h => by cases h with | int t => cases t; exact ⟨rfl, trivial⟩
 back := fun _ h => by
  obtain ⟨h, -⟩ := h
  subst h
  exact .int .nl
theorem Br.sl {α : Type} {T : Ty α} {enc : α → List C} (hb : Br T enc) : Br (tSl T) (encL T.size enc) where
 len := fun x => rfl
 to := fun h1 h2 h => by
  obtain ⟨v, rfl, h⟩ := h.single
  exact ⟨v, rfl, sl_to hb h1 h2 h⟩
 back := fun h1 h => by
  obtain ⟨v, rfl, h⟩ := h
  exact sl_back hb h1 h
theorem WR.fresh {E : En} {F : Nat → Prop} {γ : List Value} {H H' : Heap} (h : WR E F γ [] H) (hK : Keep [] H H') : WR E (fun q => F q ∨ (H.size ≤ q ∧ q < H'.size)) γ [] H' := by
 have h' := h.same hK
 refine ⟨h'.len, fun j b g hj => (by simp at hj), fun i j b b' g g' hne hi => (by simp at hi), fun j b g q hj => (by simp at hj), fun q hq => hq.elim (h'.fb q) (fun he => he.2), h'.bb, h'.size, h'.keep, fun q hq => .inl (h'.fmono q hq), fun q hq => hq.elim (h'.fnew q) (fun he => .inr (.inr (by have := h.size; omega))), fun j b g q hj => (by simp at hj), h'.pre⟩
abbrev Lls := List (List UInt8)
abbrev encLs : Lls → List C := encL 1 (encL 1 bytesC)
abbrev lsC (l : Lls) : C := .ls 1 (List UInt8) (encL 1 bytesC) l
open Classical in
noncomputable def outer (F : Nat → Prop) (H : Heap) : List Nat := (List.range H.size).filter fun q => decide (¬ F q)
theorem outer_no {F : Nat → Prop} {H : Heap} : ∀ q ∈ outer F H, ¬ F q := fun q hq => by
 unfold outer at hq
 rw [List.mem_filter] at hq
 simpa using hq.2
theorem outer_lt {F : Nat → Prop} {H : Heap} : ∀ q ∈ outer F H, q < H.size := fun q hq => by
 unfold outer at hq
 rw [List.mem_filter] at hq
 simpa using hq.1
theorem outer_yes {F : Nat → Prop} {H H' : Heap} : ∀ q, q < H'.size → q ∉ outer F H → F q ∨ (H.size ≤ q ∧ q < H'.size) := fun q h1 h2 => by
 by_cases h : q < H.size
 ·refine .inl (Classical.byContradiction fun hn => h2 ?_)
  unfold outer
  rw [List.mem_filter]
  exact ⟨by simpa using h, by simpa using hn⟩
 ·exact .inr ⟨by omega, h1⟩
theorem Does.merge {P : Program} {f : FuncId} {base a b : Lls} {r : Option Lls}
  (h : ∀ {H : Heap} {M : List Nat} {vs va vb : Value}, Sl (tSl tByte) H M vs base → Sl (tSl tByte) H M va a → Sl (tSl tByte) H M vb b → (∀ i ∈ M, i < H.size) →
   CallsH P f #[vs, va, vb] H fun u H' => (∃ v l, r = some l ∧ u = .tuple #[v, .bool true] ∧ Sl (tSl tByte) H' M v l ∧ Keep [] H H') ∨ (r = none ∧ u = .tuple #[.slice none 0 0, .bool false] ∧ Keep [] H H')) :
  Does P f [.c (lsC base), .c (lsC a), .c (lsC b)] [] (fun o ah => ah = [] ∧ ((∃ l, r = some l ∧ o = .ret (.tup [(false, [lsC l]), (false, [.bool true])])) ∨ (r = none ∧ o = .ret (.tup [(false, [lsC []]), (false, [.bool false])])))) := by
 intro F L γ H vs hargs hW
 match vs, hargs with
 | [v1, v2, v3], ⟨h1, h2, h3, _⟩ =>
  have bb := Br.byte.sl
  have c := h (M := outer F H) (sl_to bb outer_no hW.fb h1) (sl_to bb outer_no hW.fb h2) (sl_to bb outer_no hW.fb h3) outer_lt
  refine (callsB c).mono fun ok v H' ⟨hok, hr⟩ => ?_
  subst hok
  rcases hr with ⟨u, l, e, rfl, hs, hK⟩ | ⟨e, rfl, hK⟩
  ·refine ⟨.ret (.tup [(false, [lsC l]), (false, [.bool true])]), [], _, γ, ⟨rfl, .inl ⟨l, e, rfl⟩⟩, rfl, rfl, rfl, ?_, hW.fresh hK⟩
   exact ⟨[u, .bool true], rfl, ⟨[u], sl_back bb outer_yes hs, rfl, fun _ => rfl⟩, ⟨[.bool true], .bool .nl, rfl, fun _ => rfl⟩, trivial⟩
  ·refine ⟨.ret (.tup [(false, [lsC []]), (false, [.bool false])]), [], _, γ, ⟨rfl, .inr ⟨e, rfl⟩⟩, rfl, rfl, rfl, ?_, hW.fresh hK⟩
   exact ⟨[.slice none 0 0, .bool false], rfl, ⟨[.slice none 0 0], .ls0 .nl, rfl, fun _ => rfl⟩, ⟨[.bool false], .bool .nl, rfl, fun _ => rfl⟩, trivial⟩
theorem Does.lines {P : Program} {f : FuncId} {b : List UInt8} {r : Lls}
  (h : ∀ {H : Heap} {M : List Nat} {v : Value}, Sl tByte H M v b → (∀ i ∈ M, i < H.size) → CallsH P f #[v] H fun u H' => Sl (tSl tByte) H' M u r ∧ Keep [] H H') :
  Does P f [.c (.ls 1 UInt8 bytesC b)] [] (Rt (.c (lsC r)) []) := by
 intro F L γ H vs hargs hW
 match vs, hargs with
 | [v1], ⟨h1, _⟩ =>
  have c := h (M := outer F H) (sl_to Br.byte outer_no hW.fb h1) outer_lt
  refine (callsB c).mono fun ok v H' ⟨hok, hs, hK⟩ => ?_
  subst hok
  exact ⟨.ret (.c (lsC r)), [], _, γ, ⟨rfl, rfl⟩, rfl, rfl, rfl, sl_back Br.byte.sl outer_yes hs, hW.fresh hK⟩
end Go.AM
end
