/- PLAIN LAWS, W13: histories. -/
import Derived.Test.YtogallppofinhaaGreatDoorU0
import Derived.Test.YtogallppofinhaaGreatDoorW1
import Derived.Test.YtogallppofinhaaGreatDoorW6
import Derived.Test.YtogallppofinhaaGreatDoorW7
import Derived.Test.YtogallppofinhaaGreatDoorP9
import Derived.Test.YtogallppofinhaaGreatDoorW5
import Derived.Test.YtogallppofinhaaGreatDoorF7
import Derived.Test.YtogallppofinhaaGreatDoorG9
section
namespace Go.Nest
open Go Go.AM
set_option linter.unusedVariables false
set_option linter.unusedSimpArgs false

theorem Anc.trans {L : List Ob} {a b c : Int} (h : Anc L a b) (h2 : Anc L b c) : Anc L a c := by
  induction h with
  | refl => exact h2
  | step h _ ih => exact .step h (ih h2)
theorem Anc.first {L : List Ob} {a b : Int} (h : Anc L a b) : b = a ∨ ∃ p ∈ (getP L a).parents, Anc L p b := by
  cases h with
  | refl => exact .inl rfl
  | step h1 h2 => exact .inr ⟨_, h1, h2⟩

/-! ### what was made are commits -/
theorem docs_ext {L : List Ob} {l : List Dc} : L <+: (docsU L l).1 :=
  docs_fold (P := fun s => L <+: s.1) (fun s d _ h => by
    unfold docStep
    split
    · exact h
    split
    · exact h
    split
    · exact h
    exact h.trans (put_ext _)) (List.prefix_refl _)
theorem kind_pre {L M : List Ob} (h : L <+: M) {k : Int} (hk : ¬ kindOf L k = 0) : kindOf M k = kindOf L k := by
  obtain ⟨r, rfl⟩ := h
  exact kindOf_app hk
theorem grow_ext {s : List Ob × List Int} {n : Sn} (h : PoolOk s.1) : s.1 <+: (growStep s n).1 :=
  (docs_ext.trans (buildP_ok (docs_ok h) _).2).trans (put_ext _)
theorem grow_kind {l : List Sn} : ∀ m ∈ (growU l).2, kindOf (growU l).1 m = 3 := by
  have := grow_fold (P := fun s => PoolOk s.1 ∧ ∀ m ∈ s.2, kindOf s.1 m = 3) (fun s n h => by
    refine ⟨growStep_ok h.1, fun m hm => ?_⟩
    have old : m ∈ s.2 → kindOf (growStep s n).1 m = 3 := fun hm => by
      have := h.2 m hm
      rw [kind_pre (grow_ext h.1) (by omega)]; exact this
    have e : (growStep s n).2 = if (snP s n).2.1 = 0 ∧ (snB s n).2.1 = 0 ∧ (snP s n).1 ∉ s.2 then s.2 ++ [(snP s n).1] else s.2 := rfl
    rw [e] at hm
    split at hm
    · rename_i hc
      rcases List.mem_append.1 hm with hm | hm
      · exact old hm
      · rw [List.mem_singleton] at hm
        subst hm
        have hg := (put_get hc.1).2
        have : (getP (growStep s n).1 (snP s n).1).kind = 3 := by
          show (getP (putP (snB s n).2.2 _).2.2 (putP (snB s n).2.2 _).1).kind = 3
          rw [hg]; rfl
        rw [← this, getP_kind]
    · exact old hm) (l := l) (s := ([], [])) ⟨.nil, fun m hm => by cases hm⟩
  exact this.2

/-! ### bases -/
/-! ### histories -/
theorem anc_last {L : List Ob} (hL : PoolOk L) {id : Int} (hi : kindOf L id = 3) : 0 < (ancL L id).length ∧ (ancL L id)[(ancL L id).length - 1]? = some id := by
  have hm : id ∈ ancL L id := (mem_anc hL hi).2 (.refl id)
  obtain ⟨i, hlt, e⟩ := List.mem_iff_getElem.1 hm
  refine ⟨by omega, ?_⟩
  rw [List.getElem?_eq_getElem (by omega)]
  have hl : (ancL L id)[(ancL L id).length - 1] ≤ id := ((mem_anc hL hi).1 (List.getElem_mem (by omega))).le hL
  by_cases h0 : i = (ancL L id).length - 1
  · subst h0; rw [e]
  · have := List.pairwise_iff_getElem.1 (anc_rise (L := L) (id := id)) i ((ancL L id).length - 1) hlt (by omega) (by omega)
    omega
end Go.Nest
end
/- PLAIN LAWS, U1: the history of a directory alone. -/
section
namespace Go.Nest
open Go Go.AM
set_option linter.unusedVariables false
set_option linter.unusedSimpArgs false
def addI (out : List Int) (id : Int) : List Int := if id ∈ out then out else out ++ [id]
def imA (im : List (List Int)) (k : Int) : List Int := (im[k.toNat]?).getD []
def upO (im : List (List Int)) (ks : List Int) : List Int := ks.foldl (fun out k => (imA im k).foldl addI out) []
def imO (L : List Ob) (dir : List UInt8) (up : List Int) (o : Ob) : List Int × Int × List Ob :=
  if (atF L o.tree dir).2 = 9 then (up, 0, L) else if (atF L o.tree dir).2 ≠ 0 then ([], (atF L o.tree dir).2, L) else
  if up.length = 1 ∧ (getP L (up.headD 0)).tree = (atF L o.tree dir).1 then (up, 0, L) else
  ([(putP L (comO (atF L o.tree dir).1 up o.text)).1], (putP L (comO (atF L o.tree dir).1 up o.text)).2.1, (putP L (comO (atF L o.tree dir).1 up o.text)).2.2)
def imS (L : List Ob) (dir : List UInt8) (im : List (List Int)) (id : Int) : List Int × Int × List Ob := imO L dir (upO im (getP L id).parents) (getP L id)
def splG (dir : List UInt8) : List Int → List Ob → List (List Int) → Int × List Ob × List (List Int)
  | [], L, im => (0, L, im)
  | id :: r, L, im => if (imS L dir im id).2.1 ≠ 0 then ((imS L dir im id).2.1, (imS L dir im id).2.2, im) else splG dir r (imS L dir im id).2.2 (im.set id.toNat (imS L dir im id).1)
def oneO (l : List Int) : Int × Int := if l.length = 0 then (0, 9) else if l.length = 1 then (l.headD 0, 0) else (0, 5)
def splitF (L : List Ob) (id : Int) (dir : List UInt8) : Int × Int × List Ob :=
  if (ancP L id).2 ≠ 0 then (0, (ancP L id).2, L) else
  if (splG dir (ancP L id).1 L (List.replicate L.length [])).1 ≠ 0 then (0, (splG dir (ancP L id).1 L (List.replicate L.length [])).1, (splG dir (ancP L id).1 L (List.replicate L.length [])).2.1) else
  ((oneO (imA (splG dir (ancP L id).1 L (List.replicate L.length [])).2.2 id)).1, (oneO (imA (splG dir (ancP L id).1 L (List.replicate L.length [])).2.2 id)).2, (splG dir (ancP L id).1 L (List.replicate L.length [])).2.1)

/-! ### more comes -/
theorem anc_more {L M : List Ob} (hp : PoolOk L) (hx : L <+: M) {a b : Int} (ha : kindOf L a = 3) : Anc M a b ↔ Anc L a b := by
  constructor
  · intro h
    induction h with
    | refl => exact .refl _
    | step h1 _ ih =>
      rw [ext_get hx (by omega)] at h1
      exact .step h1 (ih (par_kind hp ha h1))
  · intro h
    induction h with
    | refl => exact .refl _
    | step h1 _ ih =>
      refine .step ?_ (ih (par_kind hp ha h1))
      rw [ext_get hx (by omega)]; exact h1
theorem ancP_more {L M : List Ob} (hp : PoolOk L) (hM : PoolOk M) (hx : L <+: M) {a : Int} (ha : kindOf L a = 3) : ancP M a = ancP L a := by
  have ha2 : kindOf M a = 3 := by rw [ext_kind hx (by omega)]; exact ha
  unfold ancP
  rw [if_pos ha, if_pos ha2]
  have : ancL M a = ancL L a := rise_uniq anc_rise anc_rise fun k => by rw [mem_anc hM ha2, mem_anc hp ha, anc_more hp hx ha]
  rw [this]
theorem com_tree {L : List Ob} (hp : PoolOk L) {j : Int} (hj : kindOf L j = 3) : kindOf L (getP L j).tree = 2 := by
  obtain ⟨h1, h2⟩ := kindOf_pos (l := L) (id := j) (by omega)
  have := (hp.obj (getP L j) (by rw [getP_at h1 h2]; exact List.getElem_mem _)).2
  have hk := getP_kind (l := L) (id := j)
  unfold leadsP at this
  rw [Bool.and_eq_true, Bool.and_eq_true] at this
  have := this.2.2
  rw [hk, hj] at this
  simpa using this
theorem atL_more {L M : List Ob} (hp : PoolOk L) (hx : L <+: M) : ∀ {ds : List (List UInt8)} {t : Int}, ¬ kindOf L t = 0 → atL M t ds = atL L t ds
  | [], t, h => rfl
  | d :: ds, t, h => by
    unfold atL
    rw [ext_kind hx h, ext_get hx h]
    split
    · rfl
    · rename_i hk
      have hk := Decidable.not_not.1 hk
      cases e : (getP L t).entries.find? (isDir d) with
      | none => rfl
      | some x =>
        have hm := List.mem_of_find?_eq_some e
        have q := (tree_ok hp hk).2 x hm
        have q1 := q.m1
        have q2 := q.kind
        exact atL_more hp hx (by omega)
theorem atF_more {L M : List Ob} (hp : PoolOk L) (hx : L <+: M) {t : Int} (h : ¬ kindOf L t = 0) (dir : List UInt8) : atF M t dir = atF L t dir := by
  unfold atF
  rw [atL_more hp hx h]

/-! ### images -/
def Coms (L : List Ob) (l : List Int) : Prop := ∀ x ∈ l, kindOf L x = 3
theorem Coms.mono {L M : List Ob} (hx : L <+: M) {l : List Int} (h : Coms L l) : Coms M l := fun x hm => by
  have := h x hm
  rw [ext_kind hx (by omega)]; exact this
theorem addI_mem {x id : Int} {out : List Int} : x ∈ addI out id ↔ x ∈ out ∨ x = id := by
  unfold addI
  split
  · rename_i h
    constructor
    · exact .inl
    · rintro (h1 | rfl)
      · exact h1
      · exact h
  · simp
theorem addF_mem {x : Int} : ∀ {l out : List Int}, x ∈ l.foldl addI out ↔ x ∈ out ∨ x ∈ l
  | [], out => by simp
  | a :: l, out => by
    rw [List.foldl_cons, addF_mem, addI_mem, List.mem_cons, or_assoc]
theorem upF_mem {x : Int} {im : List (List Int)} : ∀ {ks out : List Int}, x ∈ ks.foldl (fun out k => (imA im k).foldl addI out) out ↔ x ∈ out ∨ ∃ k ∈ ks, x ∈ imA im k
  | [], out => by simp
  | a :: l, out => by
    rw [List.foldl_cons, upF_mem, addF_mem, or_assoc]
    simp
theorem upO_mem {x : Int} {im : List (List Int)} {ks : List Int} : x ∈ upO im ks ↔ ∃ k ∈ ks, x ∈ imA im k := by
  unfold upO; rw [upF_mem]; simp
def ImP (P : Int → Prop) (im : List (List Int)) : Prop := ∀ k, ∀ x ∈ imA im k, P x
theorem ImP.up {P : Int → Prop} {im : List (List Int)} (h : ImP P im) {ks : List Int} : ∀ x ∈ upO im ks, P x := fun x hx => by
  obtain ⟨k, -, h2⟩ := upO_mem.1 hx
  exact h k x h2
theorem ImP.put {P : Int → Prop} {im : List (List Int)} (h : ImP P im) {n : Nat} {v : List Int} (hv : ∀ x ∈ v, P x) : ImP P (im.set n v) := fun k x hx => by
  unfold imA at hx
  rw [List.getElem?_set] at hx
  split at hx
  · split at hx
    · exact hv x hx
    · cases hx
  · exact h k x hx
theorem ImP.start {P : Int → Prop} {n : Nat} : ImP P (List.replicate n []) := fun k x hx => by
  unfold imA at hx
  rw [List.getElem?_replicate] at hx
  split at hx <;> cases hx
theorem ImP.mono {P Q : Int → Prop} {im : List (List Int)} (h : ImP P im) (hPQ : ∀ x, P x → Q x) : ImP Q im := fun k x hx => hPQ x (h k x hx)
theorem imO_ok {L : List Ob} (hp : PoolOk L) {dir : List UInt8} {up : List Int} {o : Ob} : PoolOk (imO L dir up o).2.2 ∧ L <+: (imO L dir up o).2.2 ∧ ((imO L dir up o).2.1 ≠ 0 → (imO L dir up o).2.2 = L) := by
  unfold imO
  split
  · exact ⟨hp, List.prefix_refl _, fun _ => rfl⟩
  split
  · exact ⟨hp, List.prefix_refl _, fun _ => rfl⟩
  split
  · exact ⟨hp, List.prefix_refl _, fun _ => rfl⟩
  · exact ⟨putP_ok hp _, put_ext _, put_no⟩
theorem headD_mem {l : List Int} (h : l.length = 1) : l.headD 0 ∈ l := by
  obtain ⟨x, rfl⟩ := List.length_eq_one_iff.1 h
  simp
theorem imO_more {L : List Ob} (hp : PoolOk L) {dir : List UInt8} {up : List Int} {o : Ob} (ht : kindOf L o.tree = 2) (hu : Coms L up) {M : List Ob} (hM : PoolOk M) (hx : (imO L dir up o).2.2 <+: M) (hc : (imO L dir up o).2.1 ≠ 0 → M = (imO L dir up o).2.2) :
    imO M dir up o = ((imO L dir up o).1, (imO L dir up o).2.1, M) := by
  have hLM : L <+: M := (imO_ok hp).2.1.trans hx
  have ea : atF M o.tree dir = atF L o.tree dir := atF_more hp hLM (by omega) dir
  unfold imO at hx hc ⊢
  rw [ea]
  split
  · rfl
  rename_i h1
  rw [if_neg h1] at hx hc
  split
  · rfl
  rename_i h2
  rw [if_neg h2] at hx hc
  by_cases h3 : up.length = 1 ∧ (getP L (up.headD 0)).tree = (atF L o.tree dir).1
  · have hk := hu _ (headD_mem h3.1)
    rw [if_pos h3, if_pos ⟨h3.1, by rw [ext_get hLM (by omega)]; exact h3.2⟩]
  · have h3' : ¬ (up.length = 1 ∧ (getP M (up.headD 0)).tree = (atF L o.tree dir).1) := fun hh => h3 ⟨hh.1, by
      have hk := hu _ (headD_mem hh.1)
      rw [ext_get hLM (by omega)] at hh
      exact hh.2⟩
    rw [if_neg h3, if_neg h3'] 
    rw [if_neg h3] at hx hc
    dsimp only at hx hc ⊢
    by_cases h4 : (putP L (comO (atF L o.tree dir).1 up o.text)).2.1 = 0
    · have := (put_more (fun h => by cases h) h4 hM hx).1
      rw [this, h4]
    · have e := put_no h4
      have := hc h4
      rw [e] at this
      subst this
      rw [e]
theorem imO_coms {L : List Ob} (hp : PoolOk L) {dir : List UInt8} {up : List Int} {o : Ob} (hu : Coms L up) (hc : (imO L dir up o).2.1 = 0) : Coms (imO L dir up o).2.2 (imO L dir up o).1 := by
  unfold imO at hc ⊢
  split
  · exact hu
  rename_i h1
  rw [if_neg h1] at hc
  split
  · rename_i h2; rw [if_pos h2] at hc; exact absurd hc h2
  rename_i h2
  rw [if_neg h2] at hc
  split
  · exact hu
  rename_i h3
  rw [if_neg h3] at hc
  intro x hx
  rw [List.mem_singleton] at hx
  subst hx
  have := (put_get hc).2
  dsimp only
  rw [← getP_kind, this]; rfl

/-! ### again -/
def Eqv (im im2 : List (List Int)) : Prop := ∀ n : Nat, (im[n]?).getD [] = (im2[n]?).getD []
theorem Eqv.at {im im2 : List (List Int)} (h : Eqv im im2) (k : Int) : imA im k = imA im2 k := h k.toNat
theorem Eqv.up {im im2 : List (List Int)} (h : Eqv im im2) (ks : List Int) : upO im ks = upO im2 ks := by
  unfold upO
  have : (fun out k => (imA im k).foldl addI out) = (fun (out : List Int) k => (imA im2 k).foldl addI out) := by funext out k; rw [h.at]
  rw [this]
theorem Eqv.put {im im2 : List (List Int)} (h : Eqv im im2) {n : Nat} (h1 : n < im.length) (h2 : n < im2.length) (v : List Int) : Eqv (im.set n v) (im2.set n v) := fun k => by
  rw [List.getElem?_set, List.getElem?_set]
  by_cases e : n = k
  · rw [if_pos e, if_pos e, if_pos h1, if_pos h2]
  · rw [if_neg e, if_neg e]; exact h k
theorem imS_par {L : List Ob} (hp : PoolOk L) {dir : List UInt8} {im : List (List Int)} {id : Int} (hk : kindOf L id = 3) (hi : ImP (fun x => kindOf L x = 3) im) {M : List Ob} (hM : PoolOk M) (hx : (imS L dir im id).2.2 <+: M)
    (hc : (imS L dir im id).2.1 ≠ 0 → M = (imS L dir im id).2.2) {im2 : List (List Int)} (he : Eqv im im2) : imS M dir im2 id = ((imS L dir im id).1, (imS L dir im id).2.1, M) := by
  have hLM : L <+: M := (imO_ok hp).2.1.trans hx
  unfold imS at hx hc ⊢
  rw [ext_get hLM (by omega), ← he.up]
  exact imO_more hp (com_tree hp hk) hi.up hM hx hc
theorem splG_ok {dir : List UInt8} : ∀ {l : List Int} {L : List Ob} {im : List (List Int)}, PoolOk L → PoolOk (splG dir l L im).2.1 ∧ L <+: (splG dir l L im).2.1
  | [], L, im, h => ⟨h, List.prefix_refl _⟩
  | id :: r, L, im, h => by
    obtain ⟨h1, h2, -⟩ := imO_ok h (dir := dir) (up := upO im (getP L id).parents) (o := getP L id)
    unfold splG
    split
    · exact ⟨h1, h2⟩
    · obtain ⟨h3, h4⟩ := splG_ok (l := r) (im := im.set id.toNat (imS L dir im id).1) h1
      exact ⟨h3, h2.trans h4⟩
theorem splG_again {dir : List UInt8} : ∀ {l : List Int} {L : List Ob} {im : List (List Int)}, PoolOk L → Coms L l → ImP (fun x => kindOf L x = 3) im → (∀ x ∈ l, x.toNat < im.length) →
    ∀ {M : List Ob} {im2 : List (List Int)}, PoolOk M → (splG dir l L im).2.1 <+: M → ((splG dir l L im).1 ≠ 0 → M = (splG dir l L im).2.1) → Eqv im im2 → (∀ x ∈ l, x.toNat < im2.length) →
    (splG dir l M im2).1 = (splG dir l L im).1 ∧ (splG dir l M im2).2.1 = M ∧ ((splG dir l L im).1 = 0 → Eqv (splG dir l L im).2.2 (splG dir l M im2).2.2)
  | [], L, im, hp, _, _, _, M, im2, hM, hx, hc, he, _ => ⟨rfl, rfl, fun _ => he⟩
  | id :: r, L, im, hp, hk, hi, hn, M, im2, hM, hx, hc, he, hn2 => by
    obtain ⟨h1, h2, h3⟩ := imO_ok hp (dir := dir) (up := upO im (getP L id).parents) (o := getP L id)
    unfold splG at hx hc ⊢
    by_cases hz : (imS L dir im id).2.1 ≠ 0
    · rw [if_pos hz] at hx hc ⊢
      have e := imS_par hp (hk id (by simp)) hi hM hx (fun _ => hc hz) he
      rw [e]
      dsimp only
      rw [if_pos hz]
      exact ⟨rfl, rfl, fun h => absurd h hz⟩
    · rw [if_neg hz] at hx hc ⊢
      have hx1 := (splG_ok (dir := dir) (l := r) (im := im.set id.toNat (imS L dir im id).1) h1).2
      have e := imS_par hp (hk id (by simp)) hi hM (hx1.trans hx) (fun h => absurd h hz) he
      rw [e]
      dsimp only
      rw [if_neg hz]
      have hv := imO_coms hp (dir := dir) (up := upO im (getP L id).parents) (o := getP L id) hi.up (Decidable.not_not.1 hz)
      refine splG_again h1 (fun x hx => (hk.mono h2) x (by simp [hx])) (ImP.put (hi.mono fun x hx => by rw [ext_kind h2 (by omega)]; exact hx) hv) (fun x hx => by rw [List.length_set]; exact hn x (by simp [hx])) hM hx hc (he.put (hn id (by simp)) (hn2 id (by simp)) _) (fun x hx => by rw [List.length_set]; exact hn2 x (by simp [hx]))

/-! ### what it is to the directory -/
def Good (L : List Ob) (line : Int → Prop) (dir : List UInt8) (x : Int) : Prop := kindOf L x = 3 ∧ ∀ y, Anc L x y → ∃ j, line j ∧ kindOf L j = 3 ∧ atF L (getP L j).tree dir = ((getP L y).tree, 0)
theorem Good.mono {L M : List Ob} (hp : PoolOk L) (hx : L <+: M) {line : Int → Prop} {dir : List UInt8} {x : Int} (h : Good L line dir x) : Good M line dir x := by
  obtain ⟨h1, h2⟩ := h
  refine ⟨by rw [ext_kind hx (by omega)]; exact h1, fun y hy => ?_⟩
  have hy := (anc_more hp hx h1).1 hy
  have hk := hy.kind hp h1
  obtain ⟨j, a, b, c⟩ := h2 y hy
  have ht := com_tree hp b
  refine ⟨j, a, by rw [ext_kind hx (by omega)]; exact b, ?_⟩
  rw [ext_get hx (by omega), ext_get hx (by omega), atF_more hp hx (by omega), c]
theorem imO_good {L : List Ob} (hp : PoolOk L) {line : Int → Prop} {dir : List UInt8} {up : List Int} {id : Int} (hid : line id) (hk : kindOf L id = 3) (hu : ∀ x ∈ up, Good L line dir x) (hc : (imO L dir up (getP L id)).2.1 = 0) :
    ∀ x ∈ (imO L dir up (getP L id)).1, Good (imO L dir up (getP L id)).2.2 line dir x := by
  have ht := com_tree hp hk
  unfold imO at hc ⊢
  split
  · exact hu
  rename_i h1
  rw [if_neg h1] at hc
  split
  · rename_i h2; rw [if_pos h2] at hc; exact absurd hc h2
  rename_i h2
  rw [if_neg h2] at hc
  have h2 := Decidable.not_not.1 h2
  split
  · exact hu
  rename_i h3
  rw [if_neg h3] at hc
  intro x hx
  rw [List.mem_singleton] at hx
  subst hx
  have hg := (put_get hc).2
  have hxx := put_ext (L := L) (comO (atF L (getP L id).tree dir).1 up (getP L id).text)
  dsimp only
  refine ⟨by rw [← getP_kind, hg]; rfl, fun y hy => ?_⟩
  rcases hy.first with rfl | ⟨p, p1, p2⟩
  · refine ⟨id, hid, by rw [ext_kind hxx (by omega)]; exact hk, ?_⟩
    rw [hg, ext_get hxx (k := id) (by omega), atF_more hp hxx (by omega)]
    exact Prod.ext rfl h2
  · rw [hg] at p1
    exact ((hu p p1).mono hp hxx).2 y p2
theorem splG_good {dir : List UInt8} {line : Int → Prop} : ∀ {l : List Int} {L : List Ob} {im : List (List Int)}, PoolOk L → Coms L l → (∀ x ∈ l, line x) → ImP (Good L line dir) im → (splG dir l L im).1 = 0 → ImP (Good (splG dir l L im).2.1 line dir) (splG dir l L im).2.2
  | [], L, im, hp, _, _, hi, _ => hi
  | id :: r, L, im, hp, hk, hl, hi, hc => by
    obtain ⟨h1, h2, h3⟩ := imO_ok hp (dir := dir) (up := upO im (getP L id).parents) (o := getP L id)
    unfold splG at hc ⊢
    split at hc
    · exact absurd hc ‹_›
    rename_i hz
    rw [if_neg hz]
    refine splG_good h1 (fun x hx => (hk.mono h2) x (by simp [hx])) (fun x hx => hl x (by simp [hx])) (ImP.put (hi.mono fun x hx => hx.mono hp h2) ?_) hc
    exact imO_good hp (hl id (by simp)) (hk id (by simp)) hi.up (Decidable.not_not.1 hz)
theorem imO_tree {L : List Ob} {dir : List UInt8} {up : List Int} {o : Ob} {t : Int} (ha : atF L o.tree dir = (t, 0)) (hc : (imO L dir up o).2.1 = 0) : ∃ x, (imO L dir up o).1 = [x] ∧ (getP (imO L dir up o).2.2 x).tree = t := by
  unfold imO at hc ⊢
  rw [ha] at hc ⊢
  rw [if_neg (by simp), if_neg (by simp)] at hc ⊢
  split
  · rename_i h3
    obtain ⟨x, rfl⟩ := List.length_eq_one_iff.1 h3.1
    exact ⟨x, rfl, h3.2⟩
  · rename_i h3
    rw [if_neg h3] at hc
    refine ⟨_, rfl, ?_⟩
    dsimp only
    rw [(put_get hc).2]; rfl
theorem splG_last {dir : List UInt8} : ∀ {l : List Int} {L : List Ob} {im : List (List Int)} (hne : l ≠ []), PoolOk L → Coms L l → ImP (fun x => kindOf L x = 3) im → (∀ x ∈ l, x.toNat < im.length) → (splG dir l L im).1 = 0 →
    ∀ t, atF L (getP L (l.getLast hne)).tree dir = (t, 0) → ∃ x, imA (splG dir l L im).2.2 (l.getLast hne) = [x] ∧ (getP (splG dir l L im).2.1 x).tree = t
  | [id], L, im, hne, hp, hk, hi, hn, hc, t, ha => by
    unfold splG at hc ⊢
    split at hc
    · exact absurd hc ‹_›
    rename_i hz
    rw [if_neg hz]
    obtain ⟨x, x1, x2⟩ := imO_tree (up := upO im (getP L id).parents) ha (Decidable.not_not.1 hz)
    refine ⟨x, ?_, x2⟩
    unfold splG imA
    rw [List.getLast_singleton, List.getElem?_set, if_pos rfl, if_pos (hn id (by simp))]
    exact x1
  | id :: b :: r, L, im, hne, hp, hk, hi, hn, hc, t, ha => by
    obtain ⟨h1, h2, h3⟩ := imO_ok hp (dir := dir) (up := upO im (getP L id).parents) (o := getP L id)
    unfold splG at hc ⊢
    split at hc
    · exact absurd hc ‹_›
    rename_i hz
    rw [if_neg hz]
    rw [List.getLast_cons (by simp)] at ha ⊢
    have hv := imO_coms hp (dir := dir) (up := upO im (getP L id).parents) (o := getP L id) hi.up (Decidable.not_not.1 hz)
    have hkl := hk ((b :: r).getLast (by simp)) (List.mem_cons_of_mem _ (List.getLast_mem _))
    have htl := com_tree hp hkl
    refine splG_last (l := b :: r) (by simp) h1 (fun x hx => (hk.mono h2) x (List.mem_cons_of_mem _ hx)) (ImP.put (hi.mono fun x hx => by rw [ext_kind h2 (by omega)]; exact hx) hv) (fun x hx => by rw [List.length_set]; exact hn x (List.mem_cons_of_mem _ hx)) hc t ?_
    rw [ext_get h2 (by omega), atF_more hp h2 (by omega)]
    exact ha
theorem anc_last' {L : List Ob} (hL : PoolOk L) {id : Int} (hi : kindOf L id = 3) : ∃ h : ancL L id ≠ [], (ancL L id).getLast h = id := by
  obtain ⟨h1, h2⟩ := anc_last hL hi
  have hne : ancL L id ≠ [] := fun e => by rw [e] at h1; cases h1
  refine ⟨hne, ?_⟩
  rw [List.getLast_eq_getElem]
  rw [List.getElem?_eq_getElem (by omega)] at h2
  exact Option.some.inj h2
theorem split_law {L : List Ob} (hp : PoolOk L) {id : Int} {dir : List UInt8} {x c : Int} {M : List Ob} (e : splitF L id dir = (x, c, M)) :
    PoolOk M ∧ L <+: M ∧ (c ≠ 0 → x = 0) ∧ splitF M id dir = (x, c, M) ∧
    (c = 0 → kindOf M id = 3 ∧ kindOf M x = 3 ∧ (∀ t, atF M (getP M id).tree dir = (t, 0) → (getP M x).tree = t) ∧ ∀ y ∈ (ancP M x).1, ∃ j ∈ (ancP M id).1, atF M (getP M j).tree dir = ((getP M y).tree, 0)) := by
  unfold splitF at e
  by_cases hk : kindOf L id = 3
  · have e0 : ancP L id = (ancL L id, 0) := if_pos hk
    rw [e0, if_neg (by simp)] at e
    have hkl : Coms L (ancL L id) := fun y hy => ((mem_anc hp hk).1 hy).kind hp hk
    have hnl : ∀ y ∈ ancL L id, y.toNat < (List.replicate L.length ([] : List Int)).length := fun y hy => by
      rw [List.length_replicate]
      have := hkl y hy
      exact (kindOf_pos (l := L) (id := y) (by omega)).2
    obtain ⟨hM, hx⟩ := splG_ok (dir := dir) (l := ancL L id) (im := List.replicate L.length []) hp
    have ag := splG_again (dir := dir) hp hkl ImP.start hnl (M := (splG dir (ancL L id) L (List.replicate L.length [])).2.1) (im2 := List.replicate (splG dir (ancL L id) L (List.replicate L.length [])).2.1.length []) hM (List.prefix_refl _) (fun _ => rfl)
      (fun n => by
        rw [List.getElem?_replicate, List.getElem?_replicate]
        split <;> split <;> rfl) (fun y hy => by
        have h1 := hnl y hy
        rw [List.length_replicate] at h1 ⊢
        exact Nat.lt_of_lt_of_le h1 hx.length_le)
    have gd := splG_good (dir := dir) (line := fun j => j ∈ ancL L id) (l := ancL L id) hp hkl (fun y hy => hy) (im := List.replicate L.length []) ImP.start
    have lst := splG_last (dir := dir) (l := ancL L id) (im := List.replicate L.length []) (anc_last' hp hk).choose hp hkl ImP.start hnl
    rw [(anc_last' hp hk).choose_spec] at lst
    have e1 : ancP (splG dir (ancL L id) L (List.replicate L.length [])).2.1 id = (ancL L id, 0) := by rw [ancP_more hp hM hx hk, e0]
    generalize hG : splG dir (ancL L id) L (List.replicate L.length []) = G at *
    obtain ⟨c1, M1, im1⟩ := G
    dsimp only at hM hx ag gd lst e1 e
    have key : M = M1 := by
      split at e
      · exact (congrArg (·.2.2) e).symm
      · exact (congrArg (·.2.2) e).symm
    subst key
    obtain ⟨a1, a2, a3⟩ := ag
    have hk2 : kindOf M id = 3 := by rw [ext_kind hx (by omega)]; exact hk
    refine ⟨hM, hx, fun hc => ?_, ?_, fun hc => ?_⟩
    · split at e
      · exact (congrArg (·.1) e).symm
      · unfold oneO at e
        split at e
        · exact (congrArg (·.1) e).symm
        split at e
        · exact absurd (congrArg (·.2.1) e).symm hc
        · exact (congrArg (·.1) e).symm
    · unfold splitF
      rw [e1, if_neg (by simp)]
      dsimp only
      rw [a1, a2]
      by_cases hz : c1 ≠ 0
      · rw [if_pos hz] at e ⊢; exact e
      · rw [if_neg hz] at e ⊢
        rw [← (a3 (Decidable.not_not.1 hz)).at]
        exact e
    · have hz : c1 = 0 := by
        refine Decidable.byContradiction fun hz => ?_
        rw [if_pos hz] at e
        exact hz ((congrArg (·.2.1) e).trans hc)
      rw [if_neg (by simpa using hz)] at e
      have gd := gd hz
      have hlen : imA im1 id = [x] := by
        unfold oneO at e
        split at e
        · have := congrArg (·.2.1) e; dsimp only at this; omega
        split at e
        · rename_i h1
          obtain ⟨u, hu⟩ := List.length_eq_one_iff.1 h1
          rw [hu] at e ⊢
          rw [show u = x from congrArg (·.1) e]
        · have := congrArg (·.2.1) e; dsimp only at this; omega
      have gx := gd id x (by rw [hlen]; simp)
      refine ⟨hk2, gx.1, fun t ht => ?_, fun y hy => ?_⟩
      · have ht2 := com_tree hp hk
        rw [ext_get hx (by omega), atF_more hp hx (by omega)] at ht
        obtain ⟨u, u1, u2⟩ := lst hz t ht
        rw [hlen] at u1
        obtain rfl : x = u := by simpa using u1
        exact u2
      · have e2 : ancP M x = (ancL M x, 0) := if_pos gx.1
        rw [e2] at hy
        obtain ⟨j, j1, j2, j3⟩ := gx.2 y ((mem_anc hM gx.1).1 hy)
        exact ⟨j, by rw [e1]; exact j1, j3⟩
  · have e0 : ancP L id = ([], 9) := if_neg hk
    rw [e0, if_pos (by simp)] at e
    obtain ⟨rfl, rfl, rfl⟩ : x = 0 ∧ c = 9 ∧ M = L := by
      refine ⟨(congrArg (·.1) e).symm, (congrArg (·.2.1) e).symm, (congrArg (·.2.2) e).symm⟩
    refine ⟨hp, List.prefix_refl _, fun _ => rfl, ?_, fun h => by cases h⟩
    unfold splitF
    rw [e0, if_pos (by simp)]
end Go.Nest
end
/- WALKS, U2: the history of a directory alone: images of commits. -/
section
namespace Go.Nest
open Go Go.AM Go.Proofs
open Go.Proofs.YtogallppofinhaaGreatDoor (tab tabOk)
set_option linter.unusedVariables false
set_option linter.unusedSimpArgs false
set_option maxRecDepth 4000
theorem add_ok {n : Nat} : ∀ {l out : List Int}, out.Nodup → (∀ x ∈ out, 0 ≤ x ∧ x < n) → (∀ x ∈ l, 0 ≤ x ∧ x < n) → (l.foldl addI out).Nodup ∧ ∀ x ∈ l.foldl addI out, 0 ≤ x ∧ x < n
  | [], out, h1, h2, _ => ⟨h1, h2⟩
  | a :: l, out, h1, h2, h3 => by
    rw [List.foldl_cons]
    refine add_ok ?_ (fun x hx => ?_) (fun x hx => h3 x (by simp [hx]))
    · unfold addI
      split
      · exact h1
      · rename_i h
        rw [List.nodup_append]
        exact ⟨h1, by simp, fun x hx y hy => by rw [List.mem_singleton] at hy; subst hy; exact fun e => h (e ▸ hx)⟩
    · rcases addI_mem.1 hx with hx | rfl
      · exact h2 x hx
      · exact h3 x (by simp)
theorem up_ok {n : Nat} {im : List (List Int)} (hi : ∀ k, ∀ x ∈ imA im k, 0 ≤ x ∧ x < n) : ∀ {ks out : List Int}, out.Nodup → (∀ x ∈ out, 0 ≤ x ∧ x < n) → (ks.foldl (fun out k => (imA im k).foldl addI out) out).Nodup ∧ ∀ x ∈ ks.foldl (fun out k => (imA im k).foldl addI out) out, 0 ≤ x ∧ x < n
  | [], out, h1, h2 => ⟨h1, h2⟩
  | k :: ks, out, h1, h2 => by
    rw [List.foldl_cons]
    obtain ⟨a, b⟩ := add_ok h1 h2 (hi k)
    exact up_ok hi a b
structure Fit (im : List (List Int)) : Prop where
  len : ∀ k, (imA im k).length ≤ 600
  all : ∀ k, ∀ x ∈ imA im k, 0 ≤ x ∧ x < (600 : Nat)
theorem up_len {im : List (List Int)} (hi : Fit im) (ks : List Int) : (upO im ks).Nodup ∧ (upO im ks).length ≤ 600 ∧ ∀ x ∈ upO im ks, 0 ≤ x ∧ x < (600 : Nat) := by
  obtain ⟨a, b⟩ := up_ok (n := 600) hi.all (ks := ks) (out := []) List.nodup_nil (fun x h => by cases h)
  exact ⟨a, nodup_len 600 a b, b⟩
theorem up_take {im : List (List Int)} {ks : List Int} {i : Nat} (h : i < ks.length) : upO im (ks.take (i + 1)) = (imA im ks[i]).foldl addI (upO im (ks.take i)) := by
  unfold upO
  rw [List.take_succ_eq_append_getElem h, List.foldl_append]; rfl
theorem add_take {l out : List Int} {j : Nat} (h : j < l.length) : (l.take (j + 1)).foldl addI out = addI ((l.take j).foldl addI out) l[j] := by
  rw [List.take_succ_eq_append_getElem h, List.foldl_append]; rfl
theorem parents_spec (L : List Ob) (dir : List UInt8) (im : List (List Int)) (o : Ob) (hpl : o.parents.length ≤ 3) (hk : ∀ k ∈ o.parents, 0 ≤ k ∧ k.toNat < im.length) (hi : Fit im) : Does Tryz.prog 165 [.c (.bp [.bp [.bs 6 Ob encOb L], .str dir, .bs 1 (List Int) (encL 1 encI) im]), .st (encOb o)] [] (Rt (.c (.rw 0)) [.row 1 Int encI (upO im o.parents)]) := by
  refine X_spec (n := 40) (n0 := 0) tabOk Tryz.call165 Tryz.func165 ?_
  intro hb
  (conv => whnf)
  refine lp Nat (fun i => ⟨[(0, .c (.bp [.bp [.bs 6 Ob encOb L], .str dir, .bs 1 (List Int) (encL 1 encI) im])), (5, .c (.rw 0)), (11, .c (.bs 1 Int encI o.parents)), (12, .c (.int .i64 o.parents.length)), (13, .c (.int .i64 i))], [.row 1 Int encI (upO im (o.parents.take i))]⟩) (fun i => i ≤ o.parents.length ∧ True) (fun i => o.parents.length - i) 0 [] [.new] ?_ ?_ (fun i hii => ?_)
  · simp
  · repeat' first | exact trivial | exact rfl | refine And.intro ?_ ?_
  (conv => whnf)
  refine dec (fun h4 => ?_) (fun h4 => ?_)
  · have hlt : i < o.parents.length := by omega
    have hst := up_take (im := im) hlt
    obtain ⟨hk0, hk1⟩ := hk _ (List.getElem_mem hlt)
    obtain ⟨u1, -, u3⟩ := up_len hi (o.parents.take i)
    generalize upO im (o.parents.take i) = out at *
    (conv => whnf)
    refine ⟨i, o.parents[i], rfl, List.getElem?_eq_getElem hlt, ?_⟩
    generalize o.parents[i] = k at *
    have hik : im[k.toNat]? = some im[k.toNat] := List.getElem?_eq_getElem hk1
    have hxs : imA im k = im[k.toNat] := by unfold imA; rw [hik]; rfl
    have hfx := hi.all k
    have hfl := hi.len k
    rw [hxs] at hst hfx hfl
    generalize im[k.toNat] = xs at *
    (conv => whnf)
    refine ⟨k.toNat, xs, by omega, hik, ?_⟩
    (conv => whnf)
    refine lp Nat (fun j => ⟨[(0, .c (.bp [.bp [.bs 6 Ob encOb L], .str dir, .bs 1 (List Int) (encL 1 encI) im])), (5, .c (.rw 0)), (11, .c (.bs 1 Int encI o.parents)), (12, .c (.int .i64 o.parents.length)), (13, .c (.int .i64 i)), (23, .c (.bs 1 Int encI xs)), (24, .c (.int .i64 xs.length)), (25, .c (.int .i64 j))], [.row 1 Int encI ((xs.take j).foldl addI out)]⟩) (fun j => j ≤ xs.length ∧ True) (fun j => xs.length - j) 0 [] [.same 0] ?_ ?_ (fun j hj => ?_)
    · simp
    · repeat' first | exact trivial | exact rfl | refine And.intro ?_ ?_
    (conv => whnf)
    refine dec (fun h5 => ?_) (fun h5 => ?_)
    · have hjt : j < xs.length := by omega
      have hs2 := add_take (out := out) hjt
      obtain ⟨v1, v2⟩ := add_ok (l := xs.take j) u1 u3 (fun x hx => hfx x (List.mem_of_mem_take hx))
      have v3 := nodup_len 600 v1 v2
      generalize (xs.take j).foldl addI out = o2 at *
      (conv => whnf)
      refine ⟨j, xs[j], rfl, List.getElem?_eq_getElem hjt, ?_⟩
      generalize xs[j] = y at *
      (conv => whnf)
      refine cl [] [] (contains_spec o2 y) ?_
      (conv => whnf)
      refine boo (fun h6 => ?_) (fun h6 => ?_)
      · have h6 : y ∉ o2 := fun h => by rw [hasI_iff.2 h] at h6; cases h6
        rw [show addI o2 y = o2 ++ [y] from if_neg h6] at hs2
        (conv => whnf)
        refine ⟨[y], rfl, ?_⟩
        (conv => whnf)
        refine ⟨_, _, rfl, rfl, (by simp only [List.length_append, List.length_cons, List.length_nil]; omega), ?_⟩
        repeat' ((conv => whnf); first | (refine dec (fun h => ?_) (fun h => ?_) <;> try contradiction) | (refine decN (fun h => ?_) (fun h => ?_) <;> try contradiction) | refine booN (fun h => ?_) (fun h => ?_) | refine boo (fun h => ?_) (fun h => ?_) | refine ⟨i64 (by omega) (by omega), ?_⟩ | refine ⟨_, _, rfl, List.getElem?_eq_getElem (by omega), ?_⟩ | refine ⟨_, ⟨rfl, by omega⟩, ?_⟩ | refine ⟨_, List.getElem?_eq_getElem (by omega), ?_⟩ | refine rtB ?_ | refine rtI ?_ | refine rtC ?_ rfl | fail)
        refine ag (j + 1) [] [.same 2] ⟨hjt, trivial⟩ (by simp only []; omega) ?_
        rw [hs2]
        repeat' first | exact trivial | exact rfl | refine And.intro ?_ ?_
      · have h6 : y ∈ o2 := hasI_iff.1 (by simpa using h6)
        rw [show addI o2 y = o2 from if_pos h6] at hs2
        repeat' ((conv => whnf); first | (refine dec (fun h => ?_) (fun h => ?_) <;> try contradiction) | (refine decN (fun h => ?_) (fun h => ?_) <;> try contradiction) | refine booN (fun h => ?_) (fun h => ?_) | refine boo (fun h => ?_) (fun h => ?_) | refine ⟨i64 (by omega) (by omega), ?_⟩ | refine ⟨_, _, rfl, List.getElem?_eq_getElem (by omega), ?_⟩ | refine ⟨_, ⟨rfl, by omega⟩, ?_⟩ | refine ⟨_, List.getElem?_eq_getElem (by omega), ?_⟩ | refine rtB ?_ | refine rtI ?_ | refine rtC ?_ rfl | fail)
        refine ag (j + 1) [] [.same 0] ⟨hjt, trivial⟩ (by simp only []; omega) ?_
        rw [hs2]
        repeat' first | exact trivial | exact rfl | refine And.intro ?_ ?_
    · obtain rfl : j = xs.length := by omega
      rw [List.take_length]
      repeat' ((conv => whnf); first | (refine dec (fun h => ?_) (fun h => ?_) <;> try contradiction) | (refine decN (fun h => ?_) (fun h => ?_) <;> try contradiction) | refine booN (fun h => ?_) (fun h => ?_) | refine boo (fun h => ?_) (fun h => ?_) | refine ⟨i64 (by omega) (by omega), ?_⟩ | refine ⟨_, _, rfl, List.getElem?_eq_getElem (by omega), ?_⟩ | refine ⟨_, ⟨rfl, by omega⟩, ?_⟩ | refine ⟨_, List.getElem?_eq_getElem (by omega), ?_⟩ | refine rtB ?_ | refine rtI ?_ | refine rtC ?_ rfl | fail)
      refine ag (i + 1) [] [.same 0] ⟨hlt, trivial⟩ (by simp only []; omega) ?_
      rw [hst]
      repeat' first | exact trivial | exact rfl | refine And.intro ?_ ?_
  · obtain rfl : i = o.parents.length := by omega
    rw [List.take_length]
    (conv => whnf)
    exact rx [] [.same 0]
theorem image_spec (L : List Ob) (hL : PoolOk L) (dir : List UInt8) (hd : dir.length ≤ 4000000) (im : List (List Int)) (o : Ob) (hpl : o.parents.length ≤ 3) (hk : ∀ k ∈ o.parents, 0 ≤ k ∧ k.toNat < im.length) (hi : Fit im) : Does Tryz.prog 103 [.c (.ptr 0 0), .st (encOb o)] [.box [.ptr 1 0, .str dir, .rw 3], .box [.rw 2], .row 6 Ob encOb L, .row 1 (List Int) (encL 1 encI) im] (Rt (.tup [(false, [.rw 5]), (false, [.int .i64 (imO L dir (upO im o.parents) o).2.1])]) [.box [.ptr 1 0, .str dir, .rw 3], .box [.rw 4], .dead, .row 1 (List Int) (encL 1 encI) im, .row 6 Ob encOb (imO L dir (upO im o.parents) o).2.2, .row 1 Int encI (imO L dir (upO im o.parents) o).1]) := by
  have p1 := parents_spec L dir im o hpl hk hi
  have hul := (up_len hi o.parents).2.1
  have hu := (up_len hi o.parents).2.2
  generalize upO im o.parents = up at *
  have p2 := at_spec L hL o.tree dir hd
  refine X_spec (n := 72) (n0 := 4) tabOk Tryz.call103 Tryz.func103 ?_
  intro hb
  rcases hat : atF L o.tree dir with ⟨t, c⟩
  rw [hat] at p2
  dsimp only at p2
  have e9 : c = 9 → imO L dir up o = (up, 0, L) := fun h => by unfold imO; rw [hat]; exact if_pos h
  have ec : c ≠ 9 → c ≠ 0 → imO L dir up o = ([], c, L) := fun h1 h2 => by unfold imO; rw [hat, if_neg h1, if_pos h2]
  have eu : c = 0 → (up.length = 1 ∧ (getP L (up.headD 0)).tree = t) → imO L dir up o = (up, 0, L) := fun h1 h2 => by unfold imO; subst h1; rw [hat]; exact (if_neg (fun h => by cases h)).trans ((if_neg (fun h => h rfl)).trans (if_pos h2))
  have ep : c = 0 → ¬ (up.length = 1 ∧ (getP L (up.headD 0)).tree = t) → imO L dir up o = ([(putP L (comO t up o.text)).1], (putP L (comO t up o.text)).2.1, (putP L (comO t up o.text)).2.2) := fun h1 h2 => by unfold imO; subst h1; rw [hat]; exact (if_neg (fun h => by cases h)).trans ((if_neg (fun h => h rfl)).trans (if_neg h2))
  have p3 := put_spec L (comO t up o.text) hL.len
  generalize imO L dir up o = R at *
  (conv => whnf)
  refine cl [] [] (p1) ?_
  (conv => whnf)
  refine ⟨false, .grow, (.l [0, 1, 2, 3, 4, 5, 6, 7, 8, 9, 10, 11, 12, 13, 14, 15]), by kernel_rfl, .inl ?_⟩
  (conv => whnf)
  refine cl [] [] (p2) ?_
  (conv => whnf)
  refine dec (fun h1 => ?_) (fun h1 => ?_)
  · obtain rfl := e9 h1
    (conv => whnf)
    exact rx [] [.same 0, .same 1, .same 2, .same 3, .same 2, .same 5]
  (conv => whnf)
  refine decN (fun h2 => ?_) (fun h2 => ?_)
  · obtain rfl := ec h1 h2
    (conv => whnf)
    exact rx [] [.same 0, .same 1, .same 2, .same 3, .same 2, .new]
  have ep := ep h2
  have eu := eu h2
  (conv => whnf)
  refine dec (fun h3 => ?_) (fun h3 => ?_)
  · obtain ⟨x, rfl⟩ := List.length_eq_one_iff.1 (show up.length = 1 by have h3 : (up.length : Int) = 1 := h3; omega)
    (conv => whnf)
    refine ⟨false, .grow, (.alt [0, 1, 2, 3, 4, 5, 6] [7, 11] fun j => bif Nat.beq j 7 then (.l [8, 9, 10, 11, 12, 13]) else bif Nat.beq j 11 then (.l [7, 8, 9, 10, 12, 13]) else .l []), by kernel_rfl, .inl ?_⟩
    (conv => whnf)
    refine ⟨0, ⟨rfl, Nat.one_pos⟩, ?_⟩
    (conv => whnf)
    refine ⟨x, rfl, ?_⟩
    refine And.intro ?_ ?_
    · (conv => whnf)
      refine cl [] [] (get_spec L hL x) ?_
      (conv => whnf)
      refine dec (fun h4 => ?_) (fun h4 => ?_)
      · obtain rfl := eu ⟨rfl, h4⟩
        (conv => whnf)
        exact rx [] [.same 0, .same 1, .same 2, .same 3, .same 2, .same 5]
      obtain rfl := ep (fun h => h4 h.2)
      generalize putP L (comO t [x] o.text) = Q at *
      (conv => whnf)
      refine ⟨false, .grow, (.l [0, 1, 2, 3, 4, 5, 6, 7, 8, 9, 10, 11, 12, 13, 14]), by kernel_rfl, .inl ?_⟩
      (conv => whnf)
      refine cl [] [1, 2] (p3) ?_
      (conv => whnf)
      refine ⟨[Q.1], rfl, ?_⟩
      (conv => whnf)
      exact rx [] [.same 0, .same 1, .same 2, .same 3, .same 7, .same 8]
    · (conv => whnf)
      refine cl [] [] (get_spec L hL x) ?_
      (conv => whnf)
      refine dec (fun h4 => ?_) (fun h4 => ?_)
      · obtain rfl := eu ⟨rfl, h4⟩
        (conv => whnf)
        exact rx [] [.same 0, .same 1, .same 2, .same 3, .same 2, .same 5]
      obtain rfl := ep (fun h => h4 h.2)
      generalize putP L (comO t [x] o.text) = Q at *
      (conv => whnf)
      refine ⟨false, .grow, (.l [0, 1, 2, 3, 4, 5, 6, 7, 8, 9, 10, 11, 12, 13, 14]), by kernel_rfl, .inl ?_⟩
      (conv => whnf)
      refine cl [] [1, 2] (p3) ?_
      (conv => whnf)
      refine ⟨[Q.1], rfl, ?_⟩
      (conv => whnf)
      exact rx [] [.same 0, .same 1, .same 2, .same 3, .same 7, .same 8]
  · obtain rfl := ep (fun h => h3 (by show (up.length : Int) = 1; omega))
    generalize putP L (comO t up o.text) = Q at *
    (conv => whnf)
    refine ⟨false, .grow, (.l [0, 1, 2, 3, 4, 5, 6, 7, 8, 9, 10, 11, 12, 13, 14]), by kernel_rfl, .inl ?_⟩
    (conv => whnf)
    refine cl [] [1, 2] (p3) ?_
    (conv => whnf)
    refine ⟨[Q.1], rfl, ?_⟩
    (conv => whnf)
    exact rx [] [.same 0, .same 1, .same 2, .same 3, .same 6, .same 7]
end Go.Nest
end
/- WALKS, U3: the history of a directory alone. -/
section
namespace Go.Nest
open Go Go.AM Go.Proofs
open Go.Proofs.YtogallppofinhaaGreatDoor (tab tabOk)
set_option linter.unusedVariables false
set_option linter.unusedSimpArgs false
set_option maxRecDepth 4000
def FitL (im : List (List Int)) : Prop := ∀ k, (imA im k).length ≤ 600
theorem FitL.put {im : List (List Int)} (h : FitL im) {n : Nat} {v : List Int} (hv : v.length ≤ 600) : FitL (im.set n v) := fun k => by
  have := h k
  unfold imA at this ⊢
  rw [List.getElem?_set]
  split
  · split
    · exact hv
    · exact Nat.zero_le _
  · exact this
theorem FitL.start {n : Nat} : FitL (List.replicate n []) := fun k => by
  unfold imA
  rw [List.getElem?_replicate]
  split <;> exact Nat.zero_le _
theorem imp_fit {M : List Ob} (hM : PoolOk M) {im : List (List Int)} (hl : FitL im) (h : ImP (fun x => kindOf M x = 3) im) : Fit im := ⟨hl, fun k x hx => by
  have h1 := h k x hx
  have h2 := kindOf_pos (l := M) (id := x) (by omega)
  have := hM.len
  omega⟩
theorem imO_len {L : List Ob} {dir : List UInt8} {up : List Int} {o : Ob} (h : up.length ≤ 600) : (imO L dir up o).1.length ≤ 600 := by
  unfold imO
  split
  · exact h
  split
  · exact Nat.zero_le _
  split
  · exact h
  · show 1 ≤ 600; decide
theorem splG_cons (dir : List UInt8) (id : Int) (r : List Int) (L : List Ob) (im : List (List Int)) : splG dir (id :: r) L im = if (imS L dir im id).2.1 ≠ 0 then ((imS L dir im id).2.1, (imS L dir im id).2.2, im) else splG dir r (imS L dir im id).2.2 (im.set id.toNat (imS L dir im id).1) := rfl
theorem splG_nil (dir : List UInt8) (L : List Ob) (im : List (List Int)) : splG dir [] L im = (0, L, im) := rfl
structure SpI (L : List Ob) (dir : List UInt8) (line : List Int) (i : Nat) (M : List Ob) (im : List (List Int)) : Prop where
  le : i ≤ line.length
  ok : PoolOk M
  pre : L <+: M
  imp : ImP (fun x => kindOf M x = 3) im
  len : im.length = L.length
  fit : FitL im
  eq : splG dir line L (List.replicate L.length []) = splG dir (line.drop i) M im
set_option maxHeartbeats 1000000 in
theorem split_spec (L : List Ob) (hL : PoolOk L) (id : Int) (dir : List UInt8) (hd : dir.length ≤ 4000000) : Does Tryz.prog 40 [.c (.ptr 0 0), .c (.int .i64 id), .c (.str dir)] [.box [.rw 1], .row 6 Ob encOb L] (Rt (.tup [(false, [.int .i64 (splitF L id dir).1]), (false, [.int .i64 (splitF L id dir).2.1])]) [.box [.rw 2], .dead, .row 6 Ob encOb (splitF L id dir).2.2]) := by
  refine X_spec (n := 76) (n0 := 2) tabOk Tryz.call40 Tryz.func40 ?_
  intro hb
  have hlen := hL.len
  have ha := ancestors_spec L hL id
  (conv => whnf)
  refine cl [] [] (ha) ?_
  by_cases hk : kindOf L id = 3
  · have e0 : ancP L id = (ancL L id, 0) := if_pos hk
    have hkl : Coms L (ancL L id) := fun y hy => ((mem_anc hL hk).1 hy).kind hL hk
    have hlc : (ancL L id).length ≤ L.length := anc_len
    have hF : splitF L id dir = if (splG dir (ancL L id) L (List.replicate L.length [])).1 ≠ 0 then (0, (splG dir (ancL L id) L (List.replicate L.length [])).1, (splG dir (ancL L id) L (List.replicate L.length [])).2.1) else
        ((oneO (imA (splG dir (ancL L id) L (List.replicate L.length [])).2.2 id)).1, (oneO (imA (splG dir (ancL L id) L (List.replicate L.length [])).2.2 id)).2, (splG dir (ancL L id) L (List.replicate L.length [])).2.1) := by
      unfold splitF; rw [e0, if_neg (by simp)]
    have hid := (kindOf_pos (l := L) (id := id) (by omega))
    rw [e0]
    generalize ancL L id = line at *
    generalize splitF L id dir = RR at *
    (conv => whnf)
    refine cl [] [] (len_spec L) ?_
    (conv => whnf)
    refine ⟨L.length, [], ⟨rfl, rfl⟩, rfl, (show L.length * 24 ≤ 140737488355328 by omega), ?_⟩
    (conv => whnf)
    refine lp (Nat × List Ob × List (List Int)) (fun p => ⟨[(0, .c (.ptr 0 0)), (1, .c (.int .i64 id)), (10, .c (.ptr 5 0)), (32, .c (.rw 3)), (33, .c (.int .i64 line.length)), (34, .c (.int .i64 p.1))], [.box [.rw 2], .dead, .row 6 Ob encOb p.2.1, .row 1 Int encI line, .row 1 (List Int) (encL 1 encI) p.2.2, .box [.ptr 0 0, .str dir, .rw 4]]⟩) (fun p => SpI L dir line p.1 p.2.1 p.2.2 ∧ True) (fun p => line.length - p.1) (0, L, List.replicate L.length []) [] [.same 0, .same 1, .same 1, .same 2, .same 3, .same 4] ?_ ?_ (fun ⟨i, M, im⟩ hi => ?_)
    · exact ⟨⟨Nat.zero_le _, hL, List.prefix_refl _, ImP.start, List.length_replicate, FitL.start, rfl⟩, trivial⟩
    · repeat' first | exact trivial | exact rfl | refine And.intro ?_ ?_
    obtain ⟨⟨hi, hM, hx, him, hml, hfl, heq⟩, -⟩ := hi
    dsimp only at hi hM hx him hml hfl heq
    (conv => whnf)
    refine dec (fun h4 => ?_) (fun h4 => ?_)
    · have hlt : i < line.length := by have h4 : (i : Int) < line.length := h4; omega
      have hiy : line[i]? = some line[i] := List.getElem?_eq_getElem hlt
      have hkx := hkl _ (List.getElem_mem hlt)
      rw [List.drop_eq_getElem_cons hlt] at heq
      have hpx := kindOf_pos (l := L) (id := line[i]) (by omega)
      generalize line[i] = x at *
      have hkM : kindOf M x = 3 := by rw [ext_kind hx (by omega)]; exact hkx
      have hpar : ∀ k ∈ (getP M x).parents, 0 ≤ k ∧ k.toNat < im.length := fun k hk => by
        rw [ext_get hx (by omega)] at hk
        have := par_lt hL hk
        rw [hml]
        exact ⟨this.1, this.2.2⟩
      have hft := imp_fit hM hfl him
      have hpl := (hM.get (id := x) (by omega)).parents
      have p1 := image_spec M hM dir hd im (getP M x) hpl hpar hft
      have q5 := imO_len (L := M) (dir := dir) (o := getP M x) (up_len hft (getP M x).parents).2.1
      obtain ⟨q1, q2, q3⟩ := imO_ok hM (dir := dir) (up := upO im (getP M x).parents) (o := getP M x)
      have q4 := imO_coms hM (dir := dir) (up := upO im (getP M x).parents) (o := getP M x) him.up
      have es : imS M dir im x = imO M dir (upO im (getP M x).parents) (getP M x) := rfl
      rw [splG_cons, es] at heq
      generalize imO M dir (upO im (getP M x).parents) (getP M x) = R at *
      obtain ⟨v, c, M'⟩ := R
      dsimp only at p1 q1 q2 q3 q4 q5 heq
      have hxi : im[x.toNat]? = some im[x.toNat] := List.getElem?_eq_getElem (by omega)
      (conv => whnf)
      refine ⟨i, ⟨rfl, hlt⟩, ?_⟩
      (conv => whnf)
      refine ⟨x, hiy, ?_⟩
      (conv => whnf)
      refine cl [] [] (get_spec M hM x) ?_
      (conv => whnf)
      refine ⟨true, .any, (.alt [0, 1, 2, 4, 5] [3, 6] fun j => bif Nat.beq j 3 then (.l [6, 7, 8, 9, 10, 11, 12, 13]) else bif Nat.beq j 6 then (.alt [] [3, 7] fun j => bif Nat.beq j 3 then (.l [7, 8, 9, 10, 11, 12, 13]) else bif Nat.beq j 7 then (.l [8, 9, 10, 3, 11, 12, 13]) else .l []) else .l []), by kernel_rfl, .inl ?_⟩
      (conv => whnf)
      refine And.intro ?_ ?_
      · (conv => whnf)
        refine cl [] [5, 0, 2, 4] (p1) ?_
        (conv => whnf)
        refine ⟨x.toNat, ⟨by omega, by omega⟩, ?_⟩
        (conv => whnf)
        refine ⟨_, v, hxi, ⟨Nat.le_refl 1, rfl⟩, ?_⟩
        (conv => whnf)
        refine decN (fun h5 => ?_) (fun h5 => ?_)
        · rw [if_pos h5] at heq
          rw [heq, if_pos h5] at hF
          subst hF
          (conv => whnf)
          exact rx [] [.same 0, .same 1, .same 7]
        · rw [if_neg (fun h => h h5)] at heq
          repeat' ((conv => whnf); first | (refine dec (fun h => ?_) (fun h => ?_) <;> try contradiction) | (refine decN (fun h => ?_) (fun h => ?_) <;> try contradiction) | refine booN (fun h => ?_) (fun h => ?_) | refine boo (fun h => ?_) (fun h => ?_) | refine ⟨i64 (by omega) (by omega), ?_⟩ | refine ⟨_, _, rfl, List.getElem?_eq_getElem (by omega), ?_⟩ | refine ⟨_, ⟨rfl, by omega⟩, ?_⟩ | refine ⟨_, List.getElem?_eq_getElem (by omega), ?_⟩ | refine rtB ?_ | refine rtI ?_ | refine rtC ?_ rfl | fail)
          refine ag (i + 1, M', im.set x.toNat v) [] [.same 0, .same 1, .same 7, .same 3, .same 4, .same 5] ⟨⟨hlt, q1, hx.trans q2, ImP.put (him.mono fun y hy => by rw [ext_kind q2 (by omega)]; exact hy) (q4 h5), by rw [List.length_set]; exact hml, hfl.put q5, heq⟩, trivial⟩ (by simp only []; omega) ?_
          repeat' first | exact trivial | exact rfl | refine And.intro ?_ ?_
      (conv => whnf)
      refine And.intro ?_ ?_
      · (conv => whnf)
        refine cl [] [5, 0, 2, 4] (p1) ?_
        (conv => whnf)
        refine ⟨x.toNat, ⟨by omega, by omega⟩, ?_⟩
        (conv => whnf)
        refine ⟨_, v, hxi, ⟨Nat.le_refl 1, rfl⟩, ?_⟩
        (conv => whnf)
        refine decN (fun h5 => ?_) (fun h5 => ?_)
        · rw [if_pos h5] at heq
          rw [heq, if_pos h5] at hF
          subst hF
          (conv => whnf)
          exact rx [] [.same 0, .same 1, .same 7]
        · rw [if_neg (fun h => h h5)] at heq
          repeat' ((conv => whnf); first | (refine dec (fun h => ?_) (fun h => ?_) <;> try contradiction) | (refine decN (fun h => ?_) (fun h => ?_) <;> try contradiction) | refine booN (fun h => ?_) (fun h => ?_) | refine boo (fun h => ?_) (fun h => ?_) | refine ⟨i64 (by omega) (by omega), ?_⟩ | refine ⟨_, _, rfl, List.getElem?_eq_getElem (by omega), ?_⟩ | refine ⟨_, ⟨rfl, by omega⟩, ?_⟩ | refine ⟨_, List.getElem?_eq_getElem (by omega), ?_⟩ | refine rtB ?_ | refine rtI ?_ | refine rtC ?_ rfl | fail)
          refine ag (i + 1, M', im.set x.toNat v) [] [.same 0, .same 1, .same 7, .same 3, .same 4, .same 5] ⟨⟨hlt, q1, hx.trans q2, ImP.put (him.mono fun y hy => by rw [ext_kind q2 (by omega)]; exact hy) (q4 h5), by rw [List.length_set]; exact hml, hfl.put q5, heq⟩, trivial⟩ (by simp only []; omega) ?_
          repeat' first | exact trivial | exact rfl | refine And.intro ?_ ?_
      · (conv => whnf)
        refine cl [] [5, 0, 2, 4] (p1) ?_
        (conv => whnf)
        refine ⟨x.toNat, ⟨by omega, by omega⟩, ?_⟩
        (conv => whnf)
        refine ⟨_, v, hxi, ⟨Nat.le_refl 1, rfl⟩, ?_⟩
        (conv => whnf)
        refine decN (fun h5 => ?_) (fun h5 => ?_)
        · rw [if_pos h5] at heq
          rw [heq, if_pos h5] at hF
          subst hF
          (conv => whnf)
          exact rx [] [.same 0, .same 1, .same 7]
        · rw [if_neg (fun h => h h5)] at heq
          repeat' ((conv => whnf); first | (refine dec (fun h => ?_) (fun h => ?_) <;> try contradiction) | (refine decN (fun h => ?_) (fun h => ?_) <;> try contradiction) | refine booN (fun h => ?_) (fun h => ?_) | refine boo (fun h => ?_) (fun h => ?_) | refine ⟨i64 (by omega) (by omega), ?_⟩ | refine ⟨_, _, rfl, List.getElem?_eq_getElem (by omega), ?_⟩ | refine ⟨_, ⟨rfl, by omega⟩, ?_⟩ | refine ⟨_, List.getElem?_eq_getElem (by omega), ?_⟩ | refine rtB ?_ | refine rtI ?_ | refine rtC ?_ rfl | fail)
          refine ag (i + 1, M', im.set x.toNat v) [] [.same 0, .same 1, .same 7, .same 3, .same 4, .same 5] ⟨⟨hlt, q1, hx.trans q2, ImP.put (him.mono fun y hy => by rw [ext_kind q2 (by omega)]; exact hy) (q4 h5), by rw [List.length_set]; exact hml, hfl.put q5, heq⟩, trivial⟩ (by simp only []; omega) ?_
          repeat' first | exact trivial | exact rfl | refine And.intro ?_ ?_
    · obtain rfl : i = line.length := by have h4 : ¬ (i : Int) < line.length := h4; omega
      rw [List.drop_length] at heq
      rw [heq, splG_nil] at hF
      rw [if_neg (by simp)] at hF
      dsimp only at hF
      have hidl : id.toNat < im.length := by omega
      have hxi : im[id.toNat]? = some im[id.toNat] := List.getElem?_eq_getElem hidl
      have hia : imA im id = im[id.toNat] := by unfold imA; rw [hxi]; rfl
      rw [hia] at hF
      generalize im[id.toNat] = out at *
      (conv => whnf)
      refine ⟨id.toNat, ⟨by omega, hidl⟩, ?_⟩
      (conv => whnf)
      refine ⟨out, hxi, ?_⟩
      (conv => whnf)
      refine dec (fun h5 => ?_) (fun h5 => ?_)
      · have h5 : (out.length : Int) = 0 := h5
        rw [show oneO out = (0, 9) from if_pos (by omega)] at hF
        subst hF
        (conv => whnf)
        exact rx [] [.same 0, .same 1, .same 2]
      have h5 : ¬ (out.length : Int) = 0 := h5
      (conv => whnf)
      refine dec (fun h6 => ?_) (fun h6 => ?_)
      · have h6 : (out.length : Int) = 1 := h6
        obtain ⟨y, rfl⟩ := List.length_eq_one_iff.1 (show out.length = 1 by omega)
        rw [show oneO [y] = (y, 0) from rfl] at hF
        subst hF
        (conv => whnf)
        refine ⟨0, y, rfl, rfl, ?_⟩
        (conv => whnf)
        exact rx [] [.same 0, .same 1, .same 2]
      · have h6 : ¬ (out.length : Int) = 1 := h6
        rw [show oneO out = (0, 5) from (if_neg (by omega)).trans (if_neg (by omega))] at hF
        subst hF
        (conv => whnf)
        exact rx [] [.same 0, .same 1, .same 2]
  · have e0 : ancP L id = ([], 9) := if_neg hk
    have hF : splitF L id dir = (0, 9, L) := by unfold splitF; rw [e0]; rfl
    rw [hF, e0]
    (conv => whnf)
    exact rx [] [.same 0, .same 1, .same 1]
end Go.Nest
end
