/- PLAIN LAWS, U9: added, and taken out again. -/
import Derived.Test.YtogallppofinhaaGreatDoorU3
import Derived.Test.YtogallppofinhaaGreatDoorU6
import Derived.Test.YtogallppofinhaaGreatDoorU4
import Derived.Test.YtogallppofinhaaGreatDoorW6
section
namespace Go.Nest
open Go Go.AM
set_option linter.unusedVariables false
set_option linter.unusedSimpArgs false
/-- what was made has trees without empty directories -/
theorem grow_kept {l : List Sn} : ∀ m ∈ (growU l).2, ∃ fs, Kept (growU l).1 (getP (growU l).1 m).tree fs := by
  have := grow_fold (P := fun s => PoolOk s.1 ∧ (∀ m ∈ s.2, kindOf s.1 m = 3) ∧ ∀ m ∈ s.2, ∃ fs, Kept s.1 (getP s.1 m).tree fs) (fun s n h => by
    have hx := grow_ext (n := n) h.1
    have e : (growStep s n).2 = if (snP s n).2.1 = 0 ∧ (snB s n).2.1 = 0 ∧ (snP s n).1 ∉ s.2 then s.2 ++ [(snP s n).1] else s.2 := rfl
    have hk : ∀ m ∈ s.2, kindOf (growStep s n).1 m = 3 := fun m hm => by
      have := h.2.1 m hm
      rw [kind_pre hx (by omega)]; exact this
    have old : ∀ m ∈ s.2, ∃ fs, Kept (growStep s n).1 (getP (growStep s n).1 m).tree fs := fun m hm => by
      obtain ⟨fs, hf⟩ := h.2.2 m hm
      have := h.2.1 m hm
      exact ⟨fs, by rw [ext_get hx (by omega)]; exact hf.mono hx⟩
    by_cases hc : (snP s n).2.1 = 0 ∧ (snB s n).2.1 = 0 ∧ (snP s n).1 ∉ s.2
    · rw [if_pos hc] at e
      have hg : getP (growStep s n).1 (snP s n).1 = comO (snB s n).1 (upsP s.2 n.parents) n.text := (put_get hc.1).2
      have hkn : kindOf (growStep s n).1 (snP s n).1 = 3 := by rw [← getP_kind, hg]; rfl
      have hke : ∃ fs, Kept (growStep s n).1 (getP (growStep s n).1 (snP s n).1).tree fs := by
        refine ⟨inOrdP (docsU s.1 n.docs).2, ?_⟩
        rw [hg]
        exact (Kept.of (docs_ok h.1) hc.2.1).mono (put_ext _)
      refine ⟨growStep_ok h.1, fun m hm => ?_, fun m hm => ?_⟩
      · rw [e] at hm
        rcases List.mem_append.1 hm with hm | hm
        · exact hk m hm
        · rw [List.mem_singleton] at hm; subst hm; exact hkn
      · rw [e] at hm
        rcases List.mem_append.1 hm with hm | hm
        · exact old m hm
        · rw [List.mem_singleton] at hm; subst hm; exact hke
    · rw [if_neg hc] at e
      refine ⟨growStep_ok h.1, fun m hm => ?_, fun m hm => ?_⟩
      · rw [e] at hm; exact hk m hm
      · rw [e] at hm; exact old m hm) (l := l) (s := ([], [])) ⟨.nil, fun m hm => (by cases hm), fun m hm => (by cases hm)⟩
  exact this.2.2
theorem put_zero {L : List Ob} {o : Ob} (h : (putP L o).2.1 ≠ 0) : (putP L o).1 = 0 := by
  unfold putP at h ⊢
  split
  · rfl
  split
  · rfl
  split
  · rename_i h1 h2 h3
    rw [if_neg h1, if_neg h2, if_pos h3] at h
    exact absurd rfl h
  split
  · rfl
  · rename_i h1 h2 h3 h4
    rw [if_neg h1, if_neg h2, if_neg h3, if_neg h4] at h
    exact absurd rfl h
theorem namesF_pre : ∀ {a b : List (List UInt8)}, namesF (a ++ b) = 0 → namesF a = 0
  | [], b, _ => rfl
  | x :: a, b, h => by
    rw [List.cons_append] at h
    unfold namesF at h ⊢
    split at h
    · rename_i h1; rw [if_pos h1]; exact namesF_pre h
    · exact absurd h ‹_›
theorem goB_zero : ∀ (n : Nat) (L : List Ob) (acc : List Ent) (l : List Fi), (goB n L acc l).2.1 ≠ 0 → (goB n L acc l).1 = 0
  | 0, L, _, _, _ => rfl
  | n + 1, L, acc, [], h => put_zero h
  | n + 1, L, acc, f :: r, h => by
    unfold goB at h ⊢
    split
    · rename_i h1
      rw [if_pos h1] at h
      exact goB_zero n L _ r h
    rename_i h1
    rw [if_neg h1] at h
    split
    · rfl
    · rename_i h2
      rw [if_neg h2] at h
      exact goB_zero n _ _ _ h
theorem addF_zero {L : List Ob} {t o : Int} {dir : List UInt8} (h : (addF L t dir o).2.1 ≠ 0) : (addF L t dir o).1 = 0 := by
  unfold addF at h ⊢
  split
  · rfl
  rename_i h1
  rw [if_neg h1] at h
  split
  · rfl
  rename_i h2
  rw [if_neg h2] at h
  unfold buildP at h ⊢
  split
  · rfl
  · rename_i h3
    rw [if_neg h3] at h
    exact goB_zero _ _ _ _ h
theorem sort_uniq {α : Type} {r : α → α → Prop} (ir : ∀ x, ¬ r x x) (asy : ∀ x y, r x y → ¬ r y x) : ∀ {a b : List α}, a.Pairwise r → b.Pairwise r → (∀ x, x ∈ a ↔ x ∈ b) → a = b
  | [], [], _, _, _ => rfl
  | [], y :: b, _, _, h => by have := (h y).2 (by simp); cases this
  | x :: a, [], _, _, h => by have := (h x).1 (by simp); cases this
  | x :: a, y :: b, ha, hb, h => by
    rw [List.pairwise_cons] at ha hb
    have e : x = y := by
      rcases List.mem_cons.1 ((h x).1 (by simp)) with e | e
      · exact e
      · rcases List.mem_cons.1 ((h y).2 (by simp)) with e2 | e2
        · exact e2.symm
        · exact absurd (hb.1 x e) (asy _ _ (ha.1 y e2))
    subst e
    rw [sort_uniq ir asy ha.2 hb.2 fun z => ?_]
    constructor
    · intro hz
      rcases List.mem_cons.1 ((h z).1 (by simp [hz])) with e | e
      · subst e; exact absurd (ha.1 z hz) (ir z)
      · exact e
    · intro hz
      rcases List.mem_cons.1 ((h z).2 (by simp [hz])) with e | e
      · subst e; exact absurd (hb.1 z hz) (ir z)
      · exact e
theorem Kept.apt {L : List Ob} {t : Int} {fs : List Fi} (h : Kept L t fs) (hp : PoolOk L) : fs.Pairwise fun f g => lessP f.path g.path = true := by
  obtain ⟨q1, q2⟩ := tree_ok hp h.tree.1
  exact ((h.tree.2.apt hp q1 q2).1).imp fun x => x.1
theorem Kept.uniq {L : List Ob} (hp : PoolOk L) {t u : Int} {fs : List Fi} (h1 : TreeOf true L t fs) (h2 : TreeOf true L u fs) : t = u := by
  have a := (tree_again hp h1 (Nat.lt_succ_self _)).2 rfl
  have b := (tree_again hp h2 (Nat.lt_succ_self _)).2 rfl
  rw [a] at b
  exact congrArg (·.1) b
theorem Kept.find {L : List Ob} {t : Int} {fs : List Fi} (h : Kept L t fs) (hp : PoolOk L) {f : Fi} (hf : f ∈ fs) : fileAtP fs f.path = (f, true) := by
  have hr := h.apt hp
  have key : fs.find? (fun g => decide (g.path = f.path)) = some f := by
    cases e : fs.find? (fun g => decide (g.path = f.path)) with
    | none =>
      rw [List.find?_eq_none] at e
      have := e f hf
      simp at this
    | some g =>
      have h1 := List.find?_some e
      have h2 := List.mem_of_find?_eq_some e
      have h1 : g.path = f.path := by simpa using h1
      congr 1
      obtain ⟨i, hi, rfl⟩ := List.mem_iff_getElem.1 h2
      obtain ⟨j, hj, rfl⟩ := List.mem_iff_getElem.1 hf
      rcases Nat.lt_trichotomy i j with hlt | rfl | hlt
      · have := List.pairwise_iff_getElem.1 hr i j hi hj hlt
        rw [h1, lessP_irrefl] at this; cases this
      · rfl
      · have := List.pairwise_iff_getElem.1 hr j i hj hi hlt
        rw [h1, lessP_irrefl] at this; cases this
  unfold fileAtP
  rw [key]
theorem mem_behind {d : List UInt8} {l : List Fi} {f : Fi} : f ∈ behindF d l ↔ ∃ g ∈ l, stripF d g = some f := by unfold behindF; rw [List.mem_filterMap]
/-- behind the directory lie just the added ones -/
theorem behind_added {dir : List UInt8} {a b : List Fi} (h : ∀ f ∈ a, under f.path dir = none) (f : Fi) : f ∈ behindF dir (allF dir a b) ↔ f ∈ b := by
  have h1 : f ∈ behindF dir (allF dir a b) ↔ f ∈ behindF dir (a ++ b.map (pre dir)) := by
    rw [mem_behind, mem_behind]
    constructor
    · rintro ⟨g, hg, e⟩; exact ⟨g, (inOrd_perm _).mem_iff.1 hg, e⟩
    · rintro ⟨g, hg, e⟩; exact ⟨g, (inOrd_perm _).mem_iff.2 hg, e⟩
  rw [h1, behind_app, behind_nil h, behind_pre, List.nil_append]
theorem dir_ok {dir p : List UInt8} (h : (splitP (dir ++ 47 :: p)).2 = 0) : (splitP dir).2 = 0 := by
  obtain ⟨h1, h2, -⟩ := split_zero h
  rw [spl_append] at h1 h2
  rw [List.length_append] at h2
  exact split_of (namesF_pre h1) (by omega)
theorem adds_law {L : List Ob} (hp : PoolOk L) {x y : Int} {a b : List Fi} (ha : Kept L x a) (hb : Kept L y b) {dir : List UInt8} {t c : Int} {M : List Ob} (e : addF L x dir y = (t, c, M)) :
    PoolOk M ∧ L <+: M ∧ (c ≠ 0 → t = 0) ∧ (c = 0 → Kept M x a ∧ Kept M y b ∧ Kept M t (allF dir a b) ∧ ((∀ f ∈ a, under f.path dir = none) → b ≠ [] → atF M t dir = (y, 0))) := by
  have hz := addF_zero (L := L) (t := x) (o := y) (dir := dir)
  have eF : addF L x dir y = buildP L (allF dir a b) := by unfold addF; rw [ha.files hp, hb.files hp]; rfl
  rw [e] at hz
  obtain ⟨h1, h2⟩ := buildP_ok hp (allF dir a b)
  have hkt := fun h => Kept.of hp (fs := allF dir a b) h
  rw [← eF, e] at h1 h2 hkt
  refine ⟨h1, h2, hz, fun hc => ?_⟩
  have ha := ha.mono h2
  have hb := hb.mono h2
  have ht : Kept M t (allF dir a b) := hkt hc
  refine ⟨ha, hb, ht, fun hno hne => ?_⟩
  obtain ⟨f, r, rfl⟩ := List.exists_cons_of_ne_nil hne
  have hm : pre dir f ∈ allF dir a (f :: r) := (inOrd_perm _).mem_iff.2 (List.mem_append.2 (.inr (List.mem_map.2 ⟨f, by simp, rfl⟩)))
  have hd := dir_ok ((filesF_all ht.ok).2 _ hm).1
  obtain ⟨d1, d2, d3⟩ := split_zero hd
  have hba := behind_added (b := f :: r) hno
  have td := tree_down h1 (spl dir) (spl_ne dir) (namesF_all d1) ht.tree
  rw [unsp_spl] at td
  have hat : atF M t dir = atL M t (spl dir) := by unfold atF; rw [if_neg (by simpa using hd), d3]
  rw [hat]
  rcases td with ⟨u, k1, k2, k3⟩ | ⟨k1, k2⟩
  · have hku : u = y := by
      obtain ⟨q1, q2⟩ := tree_ok h1 k2.1
      have r1 := ((k2.2.apt h1 q1 q2).1).imp fun x => x.1
      have r2 := hb.apt h1
      have eq := sort_uniq (r := fun f g : Fi => lessP f.path g.path = true) (fun x h => by rw [lessP_irrefl] at h; cases h) (fun x y h h2 => by rw [lessP_asymm h] at h2; cases h2) r1 r2 hba
      rw [eq] at k2
      exact Kept.uniq h1 k2 hb.tree
    rw [k1, hku]
  · have := (hba f).2 (by simp)
    rw [k2] at this; cases this
def addedT : List UInt8 := [97, 100, 100, 101, 100]
theorem put_com {M : List Ob} {t : Int} (hk : kindOf M t = 2) : (putP M (comO t [] addedT)).2.1 = 0 ∨ (putP M (comO t [] addedT)).2.1 = 15 := by
  have hpos := kindOf_pos (l := M) (id := t) (by omega)
  have hs : addedT.all shown = true := by decide
  have hl : addedT.length = 5 := rfl
  have he : entsF none [] = 0 := rfl
  have hf : objF (comO t [] addedT) = 0 := by
    unfold objF comO treeC
    simp [hs, hl, he]
    omega
  have hle : leadsP M (comO t [] addedT) = true := by
    unfold leadsP comO
    simp [hk]
  unfold putP
  rw [if_neg (by simpa using hf), if_neg (by simp [hle])]
  split
  · exact .inl rfl
  split
  · exact .inr rfl
  · exact .inl rfl
theorem anc_alone {N : List Ob} (hN : PoolOk N) {k : Int} (hk : kindOf N k = 3) (hp : (getP N k).parents = []) : ancP N k = ([k], 0) := by
  have : ancL N k = [k] := rise_uniq anc_rise (by simp) fun z => by
    rw [mem_anc hN hk, List.mem_singleton]
    constructor
    · intro h
      rcases h.first with h | ⟨p, h1, h2⟩
      · exact h
      · rw [hp] at h1; cases h1
    · rintro rfl; exact .refl _
  unfold ancP
  rw [if_pos hk, this]
theorem adds_split {M : List Ob} (hM : PoolOk M) {t y : Int} {dir : List UInt8} (hk : kindOf M t = 2) (hy : kindOf M y = 2) (ha : atF M t dir = (y, 0)) (hz : (putP M (comO t [] addedT)).2.1 = 0) :
    ((splitF (putP M (comO t [] addedT)).2.2 (putP M (comO t [] addedT)).1 dir).2.1 = 0 ∨ (splitF (putP M (comO t [] addedT)).2.2 (putP M (comO t [] addedT)).1 dir).2.1 = 15) ∧
    ((splitF (putP M (comO t [] addedT)).2.2 (putP M (comO t [] addedT)).1 dir).2.1 = 0 → getP (splitF (putP M (comO t [] addedT)).2.2 (putP M (comO t [] addedT)).1 dir).2.2 (splitF (putP M (comO t [] addedT)).2.2 (putP M (comO t [] addedT)).1 dir).1 = comO y [] addedT) := by
  obtain ⟨g1, g2⟩ := put_get hz
  have hx := put_ext (L := M) (comO t [] addedT)
  have hN := putP_ok hM (comO t [] addedT)
  generalize putP M (comO t [] addedT) = Q at *
  obtain ⟨k, z, N⟩ := Q
  dsimp only at g1 g2 hx hN ⊢
  have hkk : kindOf N k = 3 := by rw [← getP_kind, g2]; rfl
  have e0 := anc_alone hN hkk (by rw [g2]; rfl)
  have hat : atF N t dir = (y, 0) := by rw [atF_more hM hx (by omega)]; exact ha
  have hyN : kindOf N y = 2 := by rw [ext_kind hx (by omega)]; exact hy
  have hpos := kindOf_pos (l := N) (id := k) (by omega)
  have es : imS N dir (List.replicate N.length []) k = ([(putP N (comO y [] addedT)).1], (putP N (comO y [] addedT)).2.1, (putP N (comO y [] addedT)).2.2) := by
    unfold imS
    rw [g2]
    unfold imO
    rw [show (comO t [] addedT).tree = t from rfl, hat, if_neg (by simp), if_neg (by simp), if_neg (by unfold comO upO; simp)]
    rfl
  have hc := put_com hyN
  have hg := fun h => (put_get (L := N) (o := comO y [] addedT) h).2
  have eS : splitF N k dir = if (putP N (comO y [] addedT)).2.1 ≠ 0 then (0, (putP N (comO y [] addedT)).2.1, (putP N (comO y [] addedT)).2.2) else ((putP N (comO y [] addedT)).1, 0, (putP N (comO y [] addedT)).2.2) := by
    unfold splitF
    rw [e0, if_neg (by simp)]
    dsimp only
    unfold splG
    rw [es]
    dsimp only
    by_cases h : (putP N (comO y [] addedT)).2.1 ≠ 0
    · rw [if_pos h, if_pos h, if_pos h]
    · rw [if_neg h, if_neg h]
      unfold splG
      dsimp only
      have : imA ((List.replicate N.length []).set k.toNat [(putP N (comO y [] addedT)).1]) k = [(putP N (comO y [] addedT)).1] := by
        unfold imA
        rw [List.getElem?_set, if_pos rfl, if_pos (by rw [List.length_replicate]; exact hpos.2)]; rfl
      rw [if_neg (by simp), this]
      rfl
  rw [eS]
  split
  · rename_i h
    exact ⟨hc, fun h2 => absurd h2 h⟩
  · rename_i h
    exact ⟨.inl rfl, fun _ => hg (Decidable.not_not.1 h)⟩
end Go.Nest
end
/- WALKS, W12: WalkDoes. -/
section
namespace Go.Nest
open Go Go.AM Go.Proofs
open Go.Proofs.YtogallppofinhaaGreatDoor (tab tabOk)
set_option linter.unusedVariables false
set_option linter.unusedSimpArgs false
set_option maxRecDepth 4000
end Go.Nest
end
/- WALKS, U10: the law SplitAdds. -/
section
namespace Go.Nest
open Go Go.AM Go.Proofs
open Go.Proofs.YtogallppofinhaaGreatDoor (tab tabOk)
set_option linter.unusedVariables false
set_option linter.unusedSimpArgs false
set_option maxRecDepth 4000
set_option maxHeartbeats 4000000 in
theorem splitAdds_spec (l : List Sn) (a b : Int) (dir : List UInt8) (hl : ∀ s ∈ l, DocsFit s.docs) : Does Tryz.prog 14 [.c (.ls 3 Sn encSn l), .c (.int .i64 a), .c (.int .i64 b), .c (.str dir)] [] (Rt (.c (.bool true)) []) := by
  refine X_spec (n := 213) (n0 := 0) tabOk Tryz.call14 Tryz.func14 ?_
  intro hb
  (conv => whnf)
  refine cl [] [] (splitBegun_spec) ?_
  (conv => whnf)
  refine cl [] [] (greatSnaps_spec l hl) ?_
  (conv => whnf)
  refine boo (fun g1 => ?_) (fun g1 => ?_)
  · (conv => whnf)
    exact rtC rfl rfl
  have hg := greatS_ok g1
  (conv => whnf)
  refine dec (fun g2 => ?_) (fun g2 => ?_)
  · (conv => whnf)
    exact rtC rfl rfl
  have hd : dir.length ≤ 500 := by have g2 : ¬ (500 : Int) < dir.length := g2; omega
  (conv => whnf)
  refine cl [] [] (grown_spec l hg) ?_
  have hL : PoolOk (growU l).1 := grow_ok
  have hk : ∀ m ∈ (growU l).2, kindOf (growU l).1 m = 3 := grow_kind
  have hkt : ∀ m ∈ (growU l).2, ∃ fs, Kept (growU l).1 (getP (growU l).1 m).tree fs := grow_kept
  have hml : (growU l).2.length ≤ 25 := Nat.le_trans grow_len (by simpa using hg.1)
  generalize growU l = G at *
  obtain ⟨L, made⟩ := G
  dsimp only at hL hk hkt hml
  (conv => whnf)
  refine dec (fun h0 => ?_) (fun h0 => ?_)
  · (conv => whnf)
    exact rtC rfl rfl
  have hne : made.length ≠ 0 := fun h => h0 (by rw [h]; rfl)
  have m1 : oneP made a ∈ made := by unfold oneP; rw [if_neg hne]; exact pick_mem hne (by omega)
  have m2 : oneP made b ∈ made := by unfold oneP; rw [if_neg hne]; exact pick_mem hne (by omega)
  have o1 := one_spec made a
  have o2 := one_spec made b
  generalize oneP made a = p at *
  generalize oneP made b = q at *
  obtain ⟨fa, ka⟩ := hkt p m1
  obtain ⟨fb, kb⟩ := hkt q m2
  have gp := get_spec L hL p
  have gq := get_spec L hL q
  have hkq := com_tree hL (hk q m2)
  generalize getP L p = ox at *
  generalize getP L q = oy at *
  have p1 := add_spec L hL ox.tree dir (by omega) oy.tree
  rcases had : addF L ox.tree dir oy.tree with ⟨t, c, M⟩
  obtain ⟨hM, hLM, s1, s2⟩ := adds_law hL ka kb had
  rw [had] at p1
  dsimp only at p1
  (conv => whnf)
  refine cl [] [] (o1) ?_
  (conv => whnf)
  refine cl [] [] (gp) ?_
  (conv => whnf)
  refine cl [] [] (o2) ?_
  (conv => whnf)
  refine cl [] [] (gq) ?_
  (conv => whnf)
  refine cl [] [0, 1] (p1) ?_
  (conv => whnf)
  refine decN (fun h1 => ?_) (fun h1 => ?_)
  · (conv => whnf)
    exact rtB (by rw [s1 h1]; rfl)
  obtain ⟨ka, kb, kt, kat⟩ := s2 h1
  have f1 := flatFiles_spec M hM ox.tree
  have f2 := flatFiles_spec M hM oy.tree
  have f3 := flatFiles_spec M hM t
  rw [ka.files hM] at f1
  rw [kb.files hM] at f2
  rw [kt.files hM] at f3
  dsimp only at f1 f2 f3
  have la := (filesF_all ka.ok).1
  have lb := (filesF_all kb.ok).1
  have hall : (allF dir fa fb).length = fa.length + fb.length := by unfold allF; rw [inOrd_len, List.length_append, List.length_map]
  have hfind : ∀ f ∈ fa, fileAtP (allF dir fa fb) f.path = (f, true) := fun f hf => kt.find hM ((inOrd_perm _).mem_iff.2 (List.mem_append.2 (.inl hf)))
  have hyM : kindOf M oy.tree = 2 := by rw [ext_kind hLM (by omega)]; exact hkq
  have htM := kt.tree.1
  generalize allF dir fa fb = all at *
  (conv => whnf)
  refine cl [] [] (f1) ?_
  (conv => whnf)
  refine cl [] [] (f2) ?_
  (conv => whnf)
  refine cl [] [] (f3) ?_
  (conv => whnf)
  refine ⟨i64 (by omega) (by omega), ?_⟩
  (conv => whnf)
  refine decN (fun h => absurd (by omega) h) (fun _ => ?_)
  (conv => whnf)
  refine lp Nat (fun i => ⟨[(3, .c (.str dir)), (9, .c (.ptr 0 0)), (15, .c (.ptr 2 0)), (17, .c (.int .i64 t)), (19, .c (.rw 3)), (21, .c (.rw 4)), (23, .c (.rw 5)), (25, .c (.int .i64 i))], [.box [.rw 1], .row 6 Ob encOb M, .box (encOb oy), .row 4 Fi encFi fa, .row 4 Fi encFi fb, .row 4 Fi encFi all]⟩) (fun i => i ≤ fa.length ∧ ∀ f ∈ fa.take i, under f.path dir = none) (fun i => fa.length - i) 0 [] [.same 0, .same 7, .same 6, .same 8, .same 9, .same 10] ?_ ?_ (fun i hi => ?_)
  · simp
  · repeat' first | exact trivial | exact rfl | refine And.intro ?_ ?_
  obtain ⟨hi, hun⟩ := hi
  (conv => whnf)
  refine dec (fun h4 => ?_) (fun h4 => ?_)
  · have hlt : i < fa.length := by omega
    have hiy : fa[i]? = some fa[i] := List.getElem?_eq_getElem hlt
    have hfi := hfind _ (List.getElem_mem hlt)
    have htk := List.take_succ_eq_append_getElem hlt
    generalize fa[i] = f at hiy hfi htk
    have p3 := find_spec all f.path
    rw [hfi] at p3
    dsimp only at p3
    have p4 := behind_spec f.path dir (by omega)
    have hui := underP_is (p := f.path) (d := dir)
    generalize underP f.path dir = U at *
    obtain ⟨u1, u2⟩ := U
    dsimp only at p4 hui
    (conv => whnf)
    refine ⟨i, ⟨rfl, hlt⟩, ?_⟩
    (conv => whnf)
    refine ⟨f, hiy, ?_⟩
    (conv => whnf)
    refine cl [] [] (p3) ?_
    (conv => whnf)
    refine ⟨false, .grow, (.l [0, 1, 2, 3, 4, 5, 6, 7, 8, 9]), by kernel_rfl, .inl ?_⟩
    (conv => whnf)
    refine ⟨i, ⟨rfl, hlt⟩, ?_⟩
    (conv => whnf)
    refine ⟨f, hiy, ?_⟩
    (conv => whnf)
    refine decN (fun h => absurd ⟨rfl, rfl, rfl, rfl⟩ h) (fun _ => ?_)
    (conv => whnf)
    refine ⟨i, ⟨rfl, hlt⟩, ?_⟩
    (conv => whnf)
    refine ⟨f, hiy, ?_⟩
    (conv => whnf)
    refine cl [] [] (p4) ?_
    (conv => whnf)
    refine boo (fun h5 => ?_) (fun h5 => ?_)
    · (conv => whnf)
      exact rtC rfl rfl
    · have h5 : u2 = false := h5
      repeat' ((conv => whnf); first | (refine dec (fun h => ?_) (fun h => ?_) <;> try contradiction) | (refine decN (fun h => ?_) (fun h => ?_) <;> try contradiction) | refine booN (fun h => ?_) (fun h => ?_) | refine boo (fun h => ?_) (fun h => ?_) | refine ⟨i64 (by omega) (by omega), ?_⟩ | refine ⟨_, _, rfl, List.getElem?_eq_getElem (by omega), ?_⟩ | refine ⟨_, ⟨rfl, by omega⟩, ?_⟩ | refine ⟨_, List.getElem?_eq_getElem (by omega), ?_⟩ | refine rtB ?_ | refine rtI ?_ | refine rtC ?_ rfl | fail)
      refine ag (i + 1) [] [.same 0, .same 1, .same 2, .same 3, .same 4, .same 5] ⟨hlt, fun g hg => ?_⟩ (by simp only []; omega) ?_
      · rw [htk, List.mem_append] at hg
        rcases hg with hg | hg
        · exact hun g hg
        · rw [List.mem_singleton] at hg
          subst hg
          rw [h5] at hui
          cases e : under g.path dir with
          | none => rfl
          | some r => rw [e] at hui; cases hui
      repeat' first | exact trivial | exact rfl | refine And.intro ?_ ?_
  · obtain rfl : i = fa.length := by omega
    rw [List.take_length] at hun
    (conv => whnf)
    refine dec (fun h5 => ?_) (fun h5 => ?_)
    · (conv => whnf)
      exact rtC rfl rfl
    have h5 : ¬ (fb.length : Int) = 0 := h5
    have hat := kat hun (fun e => h5 (by rw [e]; rfl))
    have p5 := at_spec M hM t dir (by omega)
    rw [hat] at p5
    have p6 := put_spec M (comO t [] addedT) hM.len
    have hpc := put_com htM
    have hsp := adds_split hM htM hyM hat
    have hN := putP_ok hM (comO t [] addedT)
    generalize putP M (comO t [] addedT) = Q at *
    obtain ⟨k, z, N⟩ := Q
    dsimp only at p5 p6 hpc hsp hN
    have p7 := split_spec N hN k dir (by omega)
    rcases hS : splitF N k dir with ⟨s, g, W⟩
    have hW := (split_law hN hS).1
    rw [hS] at p7 hsp
    dsimp only at p7 hsp
    have p8 := get_spec W hW s
    (conv => whnf)
    refine cl [] [] (p5) ?_
    (conv => whnf)
    refine decN (fun h => absurd rfl h) (fun _ => ?_)
    (conv => whnf)
    refine cl [] [0, 1] (p6) ?_
    (conv => whnf)
    refine decN (fun h6 => ?_) (fun h6 => ?_)
    · (conv => whnf)
      exact rtB (decide_eq_true (hpc.resolve_left h6))
    have hsp := hsp h6
    (conv => whnf)
    refine cl [] [0, 6] (p7) ?_
    (conv => whnf)
    refine decN (fun h7 => ?_) (fun h7 => ?_)
    · (conv => whnf)
      exact rtB (decide_eq_true (hsp.1.resolve_left h7))
    rw [hsp.2 h7] at p8
    (conv => whnf)
    refine cl [] [] (p8) ?_
    (conv => whnf)
    refine dec (fun _ => ?_) (fun h => absurd rfl h)
    (conv => whnf)
    exact rtB rfl
end Go.Nest
end
