/- PLAIN LAWS, K16: what lies in front of one, again. -/
import Derived.Test.YtogallppofinhaaGreatDoorK14
import Derived.Test.YtogallppofinhaaGreatDoorU0
section
namespace Go.Nest
open Go Go.AM
set_option linter.unusedVariables false
set_option linter.unusedSimpArgs false
/-- no more commits -/
def NoCom (L M : List Ob) : Prop := ∀ id, kindOf M id = 3 → kindOf L id = 3
theorem NoCom.refl (L : List Ob) : NoCom L L := fun _ h => h
theorem NoCom.trans {L M N : List Ob} (h1 : NoCom L M) (h2 : NoCom M N) : NoCom L N := fun id h => h1 id (h2 id h)
theorem put_nocom {L : List Ob} {o : Ob} (ho : o.kind ≠ 3) : NoCom L (putP L o).2.2 := fun id h => by
  rcases put_new (L := L) (o := o) (id := id) (by omega) with h1 | h1
  · rw [← ext_kind (put_ext o) h1]; exact h
  · rw [← getP_kind, h1] at h; exact absurd h ho
theorem goB_nocom : ∀ (n : Nat) (L : List Ob) (acc : List Ent) (l : List Fi), NoCom L (goB n L acc l).2.2
  | 0, L, _, _ => .refl L
  | n + 1, L, acc, [] => put_nocom (fun h => by cases h)
  | n + 1, L, acc, f :: r => by
    unfold goB
    split
    · exact goB_nocom n L _ r
    have h1 := goB_nocom n L [] (insideP (cutP f.path).1 (f :: r)).1
    split
    · exact h1
    · exact h1.trans (goB_nocom n _ _ _)
theorem buildP_nocom {L : List Ob} {l : List Fi} : NoCom L (buildP L l).2.2 := by
  unfold buildP
  split
  · exact .refl L
  · exact goB_nocom _ _ _ _
theorem filesW_nocom : ∀ {l : List It} {L : List Ob} {out : List Fi}, NoCom L (filesW L l out).2.2
  | [], L, out => .refl L
  | x :: r, L, out => by
    unfold filesW
    split
    · exact filesW_nocom
    split
    · exact put_nocom (fun h => by cases h)
    · exact (put_nocom (fun h => by cases h)).trans filesW_nocom
theorem treeW_nocom {L : List Ob} {l : List It} : NoCom L (treeW L l).2.2 := by
  unfold treeW
  split
  · exact filesW_nocom
  · exact filesW_nocom.trans buildP_nocom
/-- links have no bytes -/
def NB (l : List It) : Prop := ∀ x ∈ l, x.link = true → x.bytes = []
theorem filesW_more : ∀ {l : List It} {L : List Ob} {out : List Fi}, PoolOk L → (filesW L l out).2.1 = 0 → ∃ gs, (filesW L l out).1 = out ++ gs ∧
    (∀ M, PoolOk M → (filesW L l out).2.2 <+: M → (∀ o2, filesW M l o2 = (o2 ++ gs, 0, M)) ∧ (NB l → (gs.map (layF M)).map docW = l.map docW))
  | [], L, out, hp, h => ⟨[], by simp [filesW], fun M hM hx => ⟨fun o2 => by simp [filesW], fun _ => rfl⟩⟩
  | x :: r, L, out, hp, h => by
    unfold filesW at h ⊢
    split
    · rename_i hl
      rw [if_pos hl] at h
      obtain ⟨gs, g1, g2⟩ := filesW_more hp h
      refine ⟨lnF x :: gs, by rw [g1]; simp, fun M hM hx => ?_⟩
      obtain ⟨g3, g4⟩ := g2 M hM hx
      refine ⟨fun o2 => ?_, fun hn => ?_⟩
      · rw [g3]; simp
      · rw [List.map_cons, List.map_cons, List.map_cons, g4 fun y hy => hn y (by simp [hy])]
        have := hn x (by simp) hl
        show docW (layF M (lnF x)) :: _ = _
        unfold layF lnF docW
        rw [if_pos rfl, this]
    · rename_i hl
      rw [if_neg hl] at h
      split
      · rename_i h2; rw [if_pos h2] at h; exact absurd h h2
      · rename_i h2
        rw [if_neg h2] at h
        have h2 := Decidable.not_not.1 h2
        obtain ⟨gs, g1, g2⟩ := filesW_more (putP_ok hp (blobO x.bytes)) h
        refine ⟨⟨x.path, 1, (putP L (blobO x.bytes)).1, 0⟩ :: gs, by rw [g1]; simp, fun M hM hx => ?_⟩
        obtain ⟨g3, g4⟩ := g2 M hM hx
        have hxx := (filesW_ok (l := r) (out := out ++ [⟨x.path, 1, (putP L (blobO x.bytes)).1, 0⟩]) (putP_ok hp (blobO x.bytes))).2.trans hx
        obtain ⟨p1, p2⟩ := put_more (fun h => by cases h) h2 hM hxx
        refine ⟨fun o2 => ?_, fun hn => ?_⟩
        · rw [p1, if_neg (by simp), g3]; simp
        · rw [List.map_cons, List.map_cons, List.map_cons, g4 fun y hy => hn y (by simp [hy])]
          have e : docW (layF M ⟨x.path, 1, (putP L (blobO x.bytes)).1, 0⟩) = docW x := by
            unfold layF
            dsimp only
            rw [if_neg (by decide), p2]; rfl
          rw [e]
/-- a tree that is kept, and its files -/
structure Kept (L : List Ob) (t : Int) (fs : List Fi) : Prop where
  tree : TreeOf true L t fs
  ok : filesF fs = 0
theorem Kept.mono {L M : List Ob} {t : Int} {fs : List Fi} (h : Kept L t fs) (hx : L <+: M) : Kept M t fs := ⟨h.tree.mono hx, h.ok⟩
theorem Kept.files {L : List Ob} {t : Int} {fs : List Fi} (h : Kept L t fs) (hp : PoolOk L) : filesP L t = (fs, 0) :=
  tree_files hp h.tree (filesF_all h.ok).1 fun f hf => (split_zero ((filesF_all h.ok).2 f hf).1).2.1
theorem Kept.build {L : List Ob} {t : Int} {fs : List Fi} (h : Kept L t fs) (hp : PoolOk L) : buildP L fs = (t, 0, L) := by
  unfold buildP
  rw [if_neg (by simpa using h.ok)]
  exact (tree_again hp h.tree (Nat.lt_succ_self _)).2 rfl
theorem Kept.of {L : List Ob} {fs : List Fi} (hp : PoolOk L) (h : (buildP L fs).2.1 = 0) : Kept (buildP L fs).2.2 (buildP L fs).1 fs := ⟨(buildP_tree hp h).2, (buildP_tree hp h).1⟩
theorem Ents.blob {ne : Bool} {L : List Ob} (hp : PoolOk L) {es : List Ent} {l : List Fi} (h : Ents ne L es l) : (∀ e ∈ es, EntOk L e) → ∀ f ∈ l, f.mode ≠ 3 → f.mode = 1 ∧ kindOf L f.id = 1 ∧ f.repo = 0 := by
  induction h with
  | nil => intro _ f hf; cases hf
  | @file e es l hm h ih =>
    intro he f hf hne
    rcases List.mem_cons.1 hf with rfl | hf
    · have q := he e (by simp)
      have q1 := q.m1
      have q3 := q.m3
      have qk := q.kind
      have ql := q.link
      dsimp only at hne ⊢
      exact ⟨by omega, by omega, by omega⟩
    · exact ih (fun x hx => he x (by simp [hx])) f hf hne
  | @dir e es m l hm hk hne h1 h ih1 ih =>
    intro he f hf hn
    rcases List.mem_append.1 hf with hf | hf
    · obtain ⟨g, hg, rfl⟩ := List.mem_map.1 hf
      exact ih1 (tree_ok hp hk).2 g hg hn
    · exact ih (fun x hx => he x (by simp [hx])) f hf hn
theorem Kept.blob {L : List Ob} {t : Int} {fs : List Fi} (h : Kept L t fs) (hp : PoolOk L) : ∀ f ∈ fs, f.mode ≠ 3 → f.mode = 1 ∧ kindOf L f.id = 1 ∧ f.repo = 0 :=
  h.tree.2.blob hp (tree_ok hp h.tree.1).2
/-- laid files are these files -/
theorem lay_files {L : List Ob} (hp : PoolOk L) : ∀ {fs : List Fi}, (∀ f ∈ fs, f.mode ≠ 3 → f.mode = 1 ∧ kindOf L f.id = 1 ∧ f.repo = 0) → ∀ out, filesW L (fs.map (layF L)) out = (out ++ fs, 0, L)
  | [], _, out => by simp [filesW]
  | f :: r, h, out => by
    have ih := lay_files hp (fs := r) (fun g hg => h g (by simp [hg]))
    rw [List.map_cons]
    by_cases hm : f.mode = 3
    · unfold filesW
      have e : layF L f = ⟨f.path, [], true, f.id, f.repo⟩ := if_pos hm
      rw [e, if_pos rfl, ih]
      have : lnF ⟨f.path, [], true, f.id, f.repo⟩ = f := by
        unfold lnF; dsimp only; rw [← hm]
      rw [this]; simp
    · unfold filesW
      have e : layF L f = ⟨f.path, (getP L f.id).bytes, false, 0, 0⟩ := if_neg hm
      obtain ⟨q1, q2, q3⟩ := h f (by simp) hm
      rw [e, if_neg (by simp)]
      dsimp only
      rw [← blob_of hp q2, put_at hp (by omega), if_neg (by simp), ih]
      have : (⟨f.path, 1, f.id, 0⟩ : Fi) = f := by rw [← q1, ← q3]
      rw [this]; simp
theorem lay_nb (L : List Ob) (fs : List Fi) : NB (fs.map (layF L)) := fun x hx hl => by
  obtain ⟨f, hf, rfl⟩ := List.mem_map.1 hx
  unfold layF at hl ⊢
  split
  · rfl
  · rename_i h; rw [if_neg h] at hl; cases hl
theorem Kept.tree_lay {L : List Ob} {t : Int} {fs : List Fi} (h : Kept L t fs) (hp : PoolOk L) : treeW L (fs.map (layF L)) = (t, 0, L) := by
  unfold treeW
  rw [lay_files hp (h.blob hp), if_neg (by simp)]
  exact h.build hp
/-- each commit's tree is kept -/
def CInv (L : List Ob) : Prop := ∀ id, kindOf L id = 3 → ∃ fs, Kept L (getP L id).tree fs
theorem CInv.mono {L M : List Ob} (h : CInv L) (hx : L <+: M) (hn : NoCom L M) : CInv M := fun id hk => by
  have h1 := hn id hk
  obtain ⟨fs, hf⟩ := h id h1
  refine ⟨fs, ?_⟩
  rw [ext_get hx (by omega)]
  exact hf.mono hx
/-- a tree that was made, again -/
theorem treeW_more {L : List Ob} (hp : PoolOk L) {l : List It} (h : (treeW L l).2.1 = 0) : ∃ fs, Kept (treeW L l).2.2 (treeW L l).1 fs ∧ (filesW L l []).1 = fs ∧ (filesW L l []).2.1 = 0 ∧
    (∀ M, PoolOk M → (filesW L l []).2.2 <+: M → filesW M l [] = (fs, 0, M) ∧ (NB l → (fs.map (layF M)).map docW = l.map docW)) ∧ (∀ M, PoolOk M → (treeW L l).2.2 <+: M → treeW M l = ((treeW L l).1, 0, M)) := by
  unfold treeW at h ⊢
  split at h
  · exact absurd h ‹_›
  rename_i h1
  rw [if_neg h1]
  have h1 := Decidable.not_not.1 h1
  obtain ⟨gs, g1, g2⟩ := filesW_more hp h1
  obtain ⟨f1, f2⟩ := filesW_ok (l := l) (out := []) hp
  rw [List.nil_append] at g1
  rw [g1] at h ⊢
  have hk := Kept.of f1 h
  have hx2 := (buildP_ok f1 gs).2
  refine ⟨gs, hk, rfl, h1, fun M hM hx => ?_, fun M hM hx => ?_⟩
  · obtain ⟨g3, g4⟩ := g2 M hM hx
    exact ⟨by rw [g3]; rfl, g4⟩
  · obtain ⟨g3, g4⟩ := g2 M hM (hx2.trans hx)
    rw [g3, if_neg (by simp)]
    exact (hk.mono hx).build hM
end Go.Nest
end
/- PLAIN LAWS, K17: nothing is lost, and what was committed comes back. -/
section
namespace Go.Nest
open Go Go.AM
set_option linter.unusedVariables false
set_option linter.unusedSimpArgs false
structure WI2 (L : List Ob) (l : List It) : Prop where
  nb : NB l
  com : CInv L
theorem CInv.nil : CInv [] := fun id h => by
  have := kindOf_pos (l := []) (id := id) (by omega)
  exact absurd this.2 (Nat.not_lt_zero _)
theorem cinv_put {M : List Ob} {t : Int} {fs : List Fi} {up : List Int} {text : List UInt8} (hc : CInv M) (hk : Kept M t fs) : CInv (putP M (comO t up text)).2.2 := fun id h3 => by
  have hx := put_ext (L := M) (comO t up text)
  rcases put_new (L := M) (o := comO t up text) (id := id) (by omega) with h | h
  · rw [ext_kind hx h] at h3
    obtain ⟨gs, hg⟩ := hc id h3
    exact ⟨gs, by rw [ext_get hx h]; exact hg.mono hx⟩
  · rw [h]
    exact ⟨fs, hk.mono hx⟩
theorem comm_cinv {L : List Ob} (hp : PoolOk L) (hc : CInv L) {l : List It} {h : Int} {text : List UInt8} {others : List Int} : CInv (commW L l h text others).2.2 := by
  have h1 := hc.mono (treeW_ok (l := l) hp).2 treeW_nocom
  unfold commW
  split
  · exact h1
  rename_i hz
  obtain ⟨fs, hk, -⟩ := treeW_more hp (Decidable.not_not.1 hz)
  split
  · exact h1
  split
  · exact cinv_put h1 hk
  · exact cinv_put h1 hk
theorem step_wi {s : WS} (h : WInv s) (h2 : WI2 s.L s.l) (x : Ws) : WI2 (stepW s x).L (stepW s x).l := by
  obtain ⟨L, l, hd, made⟩ := s
  obtain ⟨hL, hW, hbl, hh⟩ := h
  obtain ⟨hn, hc⟩ := h2
  dsimp only at hL hW hbl hh hn hc
  unfold stepW
  dsimp only
  split
  · refine ⟨?_, hc⟩
    show NB (wrW l x.path x.bytes).2
    unfold wrW
    split
    · exact hn
    · obtain ⟨a, b⟩ := put_ok hW ⟨x.path, x.bytes, false, 0, 0⟩
      intro y hy hl
      rcases b y hy with rfl | hy
      · cases hl
      · exact hn y hy hl
  split
  · obtain ⟨a, b⟩ := rem_ok hW x.path
    exact ⟨fun y hy => hn y (b y hy), hc⟩
  split
  · generalize kkW ⟨L, l, hd, made⟩ x = kk
    refine ⟨?_, hc⟩
    show NB (liW L l x.path x.repo kk).2
    unfold liW
    split
    · exact hn
    split
    · exact hn
    · obtain ⟨a, b⟩ := put_ok hW ⟨x.path, [], true, kk, x.repo⟩
      intro y hy hl
      rcases b y hy with rfl | hy
      · rfl
      · exact hn y hy hl
  split
  · exact ⟨hn, comm_cinv hL hc⟩
  split
  · generalize kkW ⟨L, l, hd, made⟩ x = kk
    refine ⟨?_, ?_⟩
    · show NB (coW L l hd kk)
      unfold coW
      split
      · exact hn
      · exact lay_nb _ _
    · show CInv (coL L l kk)
      unfold coL
      split
      · exact hc
      · exact hc.mono (treeW_ok (l := l) hL).2 treeW_nocom
  split
  · generalize kkW ⟨L, l, hd, made⟩ x = kk
    refine ⟨?_, hc.mono (buildP_ok hL _).2 buildP_nocom⟩
    show NB (layW L l (filesP L (getP L kk).tree).1)
    unfold layW
    split
    · exact hn
    · exact lay_nb _ _
  · exact ⟨hn, hc⟩
/-- a commit whose files are these, as they lie in front of one -/
def Had (L : List Ob) (id : Int) (ds : List Dc) : Prop := kindOf L id = 3 ∧ ∃ fs, Kept L (getP L id).tree fs ∧ (fs.map (layF L)).map docW = ds
theorem Kept.lay_mono {L M : List Ob} {t : Int} {fs : List Fi} (h : Kept L t fs) (hp : PoolOk L) (hx : L <+: M) : fs.map (layF M) = fs.map (layF L) := by
  refine List.map_congr_left fun f hf => ?_
  unfold layF
  split
  · rfl
  · rename_i hm
    rw [ext_get hx (by have := (h.blob hp f hf hm).2.1; omega)]
theorem Had.mono {L M : List Ob} {id : Int} {ds : List Dc} (h : Had L id ds) (hp : PoolOk L) (hx : L <+: M) : Had M id ds := by
  obtain ⟨h1, fs, h2, h3⟩ := h
  refine ⟨by rw [ext_kind hx (by omega)]; exact h1, fs, ?_, ?_⟩
  · rw [ext_get hx (by omega)]; exact h2.mono hx
  · rw [h2.lay_mono hp hx]; exact h3
def Hads (L : List Ob) (made : List Int) (docs : List (List Dc)) : Prop := docs.length = made.length ∧ ∀ (i : Nat) (h : i < made.length) (h2 : i < docs.length), Had L made[i] docs[i]
theorem Hads.nil (L : List Ob) : Hads L [] [] := ⟨rfl, fun i h => by cases h⟩
theorem Hads.mono {L M : List Ob} {made : List Int} {docs : List (List Dc)} (h : Hads L made docs) (hp : PoolOk L) (hx : L <+: M) : Hads M made docs := ⟨h.1, fun i a b => (h.2 i a b).mono hp hx⟩
theorem Hads.snoc {L : List Ob} {made : List Int} {docs : List (List Dc)} {id : Int} {ds : List Dc} (h : Hads L made docs) (h2 : Had L id ds) : Hads L (made ++ [id]) (docs ++ [ds]) := by
  obtain ⟨h1, h3⟩ := h
  refine ⟨by simp [h1], fun i a b => ?_⟩
  by_cases hi : i < made.length
  · rw [List.getElem_append_left hi, List.getElem_append_left (by omega)]
    exact h3 i hi (by omega)
  · rw [List.length_append, List.length_singleton] at a
    obtain rfl : i = made.length := by omega
    simp only [List.getElem_concat_length, h1.symm]
    simpa using h2
/-- it is clean, and looking at it puts nothing more -/
def Still (L : List Ob) (l : List It) (h : Int) : Prop := (treeW L l).2.1 = 0 ∧ (treeW L l).2.2 = L ∧ cleanW L l h = 0
theorem clean_parts {L : List Ob} {l : List It} {h : Int} (hc : cleanW L l h = 0) : (treeW L l).2.1 = 0 ∧ saysW (treeW L l).2.2 l h (treeW L l).1 = true := by
  unfold cleanW at hc
  split at hc
  · exact absurd hc ‹_›
  rename_i h1
  split at hc
  · exact ⟨Decidable.not_not.1 h1, ‹_›⟩
  · cases hc
theorem says_ext {L M : List Ob} {l : List It} {h t : Int} (hh : HOk L h) (hx : L <+: M) : saysW M l h t = saysW L l h t := by
  unfold saysW
  split
  · rfl
  · rename_i h0
    have hk := hh.resolve_left h0
    rw [ext_get hx (by omega)]
theorem clean_still {L : List Ob} (hp : PoolOk L) {l : List It} {h : Int} (hh : HOk L h) (hc : cleanW L l h = 0) : ∀ M, PoolOk M → (treeW L l).2.2 <+: M → Still M l h := fun M hM hx => by
  obtain ⟨h1, h2⟩ := clean_parts hc
  obtain ⟨fs, -, -, -, -, k5⟩ := treeW_more hp h1
  have e := k5 M hM hx
  refine ⟨by rw [e], by rw [e], ?_⟩
  unfold cleanW
  rw [e, if_neg (by simp)]
  dsimp only
  rw [says_ext (hh.ext (treeW_ok (l := l) hp).2) hx, h2, if_pos rfl]
theorem had_still {L : List Ob} (hp : PoolOk L) {id : Int} {fs : List Fi} (hk : kindOf L id = 3) (h : Kept L (getP L id).tree fs) : Still L (fs.map (layF L)) id := by
  have e := h.tree_lay hp
  refine ⟨by rw [e], by rw [e], ?_⟩
  unfold cleanW
  rw [e, if_neg (by simp)]
  dsimp only
  unfold saysW
  have := kindOf_pos (l := L) (id := id) (by omega)
  rw [if_neg this.1, if_pos (decide_eq_true rfl)]
theorem had_lay {L : List Ob} (hp : PoolOk L) {t : Int} {fs : List Fi} (h : Kept L t fs) : WOk (fs.map (layF L)) ∧ ∀ x ∈ fs.map (layF L), x.bytes.length ≤ 400 :=
  Go.Nest.tree_lay hp hp h.tree (fun f hf => (split_zero ((filesF_all h.ok).2 f hf).1).2.1) (filesF_all h.ok).1
/-- a kept commit is checked out -/
theorem co_had {L : List Ob} (hp : PoolOk L) {l : List It} {h : Int} (hs : Still L l h) {id : Int} {ds : List Dc} (hd : Had L id ds) :
    coC L l h id = 0 ∧ coL L l id = L ∧ (coW L l h id).map docW = ds ∧ coH L l h id = id ∧ Still L (coW L l h id) id ∧ WOk (coW L l h id) ∧ ∀ x ∈ coW L l h id, x.bytes.length ≤ 400 := by
  obtain ⟨hk, fs, h1, h2⟩ := hd
  obtain ⟨e1, e2, e3, e4⟩ := co_files (h := h) (l := l) hk hs.2.2
  rw [hs.2.1, h1.files hp] at e1 e3 e4
  rw [hs.2.1] at e2
  rw [if_neg (by simp)] at e3 e4
  dsimp only at e3 e4
  rw [e3, e4]
  obtain ⟨a, b⟩ := had_lay hp h1
  exact ⟨e1, e2, h2, rfl, had_still hp hk h1, a, b⟩
/-- a commit that was made -/
theorem comm_had {L : List Ob} (hp : PoolOk L) {l : List It} {h : Int} {text : List UInt8} {others : List Int} (hn : NB l) (hc : (commW L l h text others).2.1 = 0) :
    Had (commW L l h text others).2.2 (commW L l h text others).1 (l.map docW) ∧ cleanW (commW L l h text others).2.2 l (commW L l h text others).1 = 0 := by
  unfold commW at hc ⊢
  split at hc
  · exact absurd hc ‹_›
  rename_i h1
  rw [if_neg h1]
  have h1 := Decidable.not_not.1 h1
  split at hc
  · cases hc
  rename_i h2
  rw [if_neg h2]
  split at hc
  · exact absurd hc ‹_›
  rename_i h3
  rw [if_neg h3]
  obtain ⟨fs, k1, k2, k3, k4, k5⟩ := treeW_more hp h1
  obtain ⟨t1, t2⟩ := treeW_ok (l := l) hp
  have hx := put_ext (L := (treeW L l).2.2) (comO (treeW L l).1 (upW h others) text)
  have hM := putP_ok t1 (comO (treeW L l).1 (upW h others) text)
  obtain ⟨g1, g2⟩ := put_get (Decidable.not_not.1 h3)
  have hf : (filesW L l []).2.2 <+: (treeW L l).2.2 := by
    unfold treeW
    rw [if_neg (by simpa using k3)]
    exact (buildP_ok (filesW_ok (l := l) (out := []) hp).1 _).2
  refine ⟨⟨by rw [← getP_kind, g2]; rfl, fs, ?_, (k4 _ hM (hf.trans hx)).2 hn⟩, ?_⟩
  · rw [g2]; exact k1.mono hx
  · have e := k5 _ hM hx
    unfold cleanW
    rw [e, if_neg (by simp)]
    dsimp only
    refine if_pos ?_
    unfold saysW
    rw [if_neg (by omega), g2]
    exact decide_eq_true rfl
theorem step_back {s : WS} (h : WInv s) (h2 : WI2 s.L s.l) {docs : List (List Dc)} (hd : Hads s.L s.made docs) (x : Ws) :
    (((stepW s x).made = s.made ∧ Hads (stepW s x).L (stepW s x).made docs) ∨ ((stepW s x).made = s.made ++ [(stepW s x).h] ∧ Hads (stepW s x).L (stepW s x).made (docs ++ [s.l.map docW]) ∧ (stepW s x).l = s.l ∧ cleanW (stepW s x).L (stepW s x).l (stepW s x).h = 0 ∧ x.what = 3)) ∧
    (x.what = 4 → (stepW s x).l = s.l ∨ cleanW (stepW s x).L (stepW s x).l (stepW s x).h = 0) := by
  have hx := (step_inv h x).2.2
  have keep := hd.mono h.pool hx
  by_cases hc : x.what = 3
  · by_cases hz : (commW s.L s.l s.h x.text (othW s x)).2.1 = 0
    · have e : stepW s x = ⟨(commW s.L s.l s.h x.text (othW s x)).2.2, s.l, (commW s.L s.l s.h x.text (othW s x)).1, s.made ++ [(commW s.L s.l s.h x.text (othW s x)).1]⟩ := by
        unfold stepW headW
        rw [if_neg (by omega), if_neg (by omega), if_neg (by omega), if_pos hc, if_pos hz, if_pos hz]
      obtain ⟨c1, c2⟩ := comm_had (h := s.h) (text := x.text) (others := othW s x) h.pool h2.nb hz
      rw [e] at keep ⊢
      refine ⟨.inr ⟨rfl, ?_, rfl, c2, hc⟩, fun h4 => by omega⟩
      dsimp only at keep ⊢
      exact (hd.mono h.pool (commW_ok (l := s.l) (h := s.h) (text := x.text) (others := othW s x) h.pool).2).snoc c1
    · have e : (stepW s x).made = s.made := by
        unfold stepW
        rw [if_neg (by omega), if_neg (by omega), if_neg (by omega), if_pos hc, if_neg hz]
      exact ⟨.inl ⟨e, by rw [e]; exact keep⟩, fun h4 => by omega⟩
  · have e : (stepW s x).made = s.made := by
      unfold stepW
      split
      · rfl
      split
      · rfl
      split
      · rfl
      split
      · rfl
      split
      · rfl
      · rfl
    refine ⟨.inl ⟨e, by rw [e]; exact keep⟩, fun h4 => ?_⟩
    have e2 : stepW s x = ⟨coL s.L s.l (kkW s x), coW s.L s.l s.h (kkW s x), coH s.L s.l s.h (kkW s x), s.made⟩ := by
      unfold stepW
      rw [if_neg (by omega), if_neg (by omega), if_neg (by omega), if_neg (by omega), if_pos h4]
    rw [e2]
    generalize kkW s x = kk
    dsimp only
    by_cases hz : coC s.L s.l s.h kk = 0
    · right
      have hk : kindOf s.L kk = 3 := by
        by_cases hk : kindOf s.L kk = 3
        · exact hk
        · rw [(co_none (h := s.h) (l := s.l) hk).1] at hz; cases hz
      have hcl : cleanW s.L s.l s.h = 0 := by
        by_cases hcl : cleanW s.L s.l s.h = 0
        · exact hcl
        · rw [(co_bad (h := s.h) (l := s.l) hk hcl).1] at hz; exact absurd hz hcl
      obtain ⟨e1, e2, e3, e4⟩ := co_files (h := s.h) (l := s.l) hk hcl
      have hz' : (filesP (treeW s.L s.l).2.2 (getP s.L kk).tree).2 = 0 := e1 ▸ hz
      rw [if_neg (fun h => h hz')] at e3 e4
      obtain ⟨t1, t2⟩ := treeW_ok (l := s.l) h.pool
      obtain ⟨fs, hf⟩ := h2.com kk hk
      have hf2 := hf.mono t2
      rw [hf2.files t1] at e3
      rw [e2, e3, e4]
      have hk3 : kindOf (treeW s.L s.l).2.2 kk = 3 := by rw [ext_kind t2 (by omega)]; exact hk
      rw [← ext_get t2 (k := kk) (by omega)] at hf2
      exact (had_still t1 hk3 hf2).2.2
    · exact .inl (if_pos hz)
/-- looked at, it stays so -/
theorem look_inv {s : WS} (h : WInv s) (h2 : WI2 s.L s.l) {docs : List (List Dc)} (hd : Hads s.L s.made docs) : WInv ⟨(treeW s.L s.l).2.2, s.l, s.h, s.made⟩ ∧ WI2 (treeW s.L s.l).2.2 s.l ∧ Hads (treeW s.L s.l).2.2 s.made docs := by
  obtain ⟨t1, t2⟩ := treeW_ok (l := s.l) h.pool
  exact ⟨⟨t1, h.ok, h.bytes, h.head.ext t2⟩, ⟨h2.nb, h2.com.mono t2 treeW_nocom⟩, hd.mono h.pool t2⟩
end Go.Nest
end
/- WALKS, K18: a step of two works, of which each goes its own way. -/
section
namespace Go.Nest
open Go Go.AM Go.Proofs
open Go.Proofs.YtogallppofinhaaGreatDoor (tab tabOk)
set_option linter.unusedVariables false
set_option linter.unusedSimpArgs false
set_option maxRecDepth 4000
/-- what the other one becomes: laid are the first one's files -/
def stepR (s r : WS) (x : Ws) : WS :=
  if x.what = 0 then ⟨r.L, (wrW r.l x.path x.bytes).2, r.h, []⟩ else
  if x.what = 1 then ⟨r.L, (remW r.l x.path).2, r.h, []⟩ else
  if x.what = 2 then ⟨r.L, (liW r.L r.l x.path x.repo (kkW s x)).2, r.h, []⟩ else
  if x.what = 3 then ⟨(commW r.L r.l r.h x.text (othW s x)).2.2, r.l, headW r.L r.l r.h x.text (othW s x), []⟩ else
  if x.what = 4 then ⟨coL r.L r.l (kkW s x), coW r.L r.l r.h (kkW s x), coH r.L r.l r.h (kkW s x), []⟩ else
  if x.what = 5 then ⟨(buildP r.L (filesP s.L (getP s.L (kkW s x)).tree).1).2.2, layW r.L r.l (filesP s.L (getP s.L (kkW s x)).tree).1, r.h, []⟩ else r
def stepB (s r : WS) (x : Ws) : Bool :=
  if x.what = 0 then decide ((wrW s.l x.path x.bytes).1 = (wrW r.l x.path x.bytes).1) else
  if x.what = 1 then decide ((remW s.l x.path).1 = (remW r.l x.path).1) else
  if x.what = 2 then decide ((liW s.L s.l x.path x.repo (kkW s x)).1 = (liW r.L r.l x.path x.repo (kkW s x)).1) else
  if x.what = 3 then decide ((commW s.L s.l s.h x.text (othW s x)).1 = (commW r.L r.l r.h x.text (othW s x)).1) && decide ((commW s.L s.l s.h x.text (othW s x)).2.1 = (commW r.L r.l r.h x.text (othW s x)).2.1) else
  if x.what = 4 then decide (coC s.L s.l s.h (kkW s x) = coC r.L r.l r.h (kkW s x)) else
  if x.what = 5 then decide (layC s.L (filesP s.L (getP s.L (kkW s x)).tree).1 = layC r.L (filesP s.L (getP s.L (kkW s x)).tree).1) else true
theorem stepR_inv {s r : WS} (h : WInv r) (x : Ws) : WInv (stepR s r x) := by
  by_cases h5 : x.what = 5
  · obtain ⟨L, l, hd, made⟩ := r
    obtain ⟨hL, hW, hbl, hh⟩ := h
    dsimp only at hL hW hbl hh
    unfold stepR
    rw [if_neg (by omega), if_neg (by omega), if_neg (by omega), if_neg (by omega), if_neg (by omega), if_pos h5]
    dsimp only
    generalize (filesP s.L (getP s.L (kkW s x)).tree).1 = fs
    obtain ⟨a, b⟩ := buildP_ok hL fs
    by_cases hc : (buildP L fs).2.1 = 0
    · obtain ⟨b1, b2⟩ := buildP_tree hL hc
      obtain ⟨g1, g2⟩ := tree_lay a a b2 (fun f hf => (split_zero ((filesF_all b1).2 f hf).1).2.1) (filesF_all b1).1
      rw [show layW L l fs = fs.map (layF (buildP L fs).2.2) from if_neg (fun h => h hc)]
      exact ⟨a, g1, g2, hh.ext b⟩
    · rw [show layW L l fs = l from if_pos hc]
      exact ⟨a, hW, hbl, hh.ext b⟩
  · have hi := (step_inv (s := ⟨r.L, r.l, r.h, s.made⟩) ⟨h.pool, h.ok, h.bytes, h.head⟩ x).1
    have e : (stepW ⟨r.L, r.l, r.h, s.made⟩ x).L = (stepR s r x).L ∧ (stepW ⟨r.L, r.l, r.h, s.made⟩ x).l = (stepR s r x).l ∧ (stepW ⟨r.L, r.l, r.h, s.made⟩ x).h = (stepR s r x).h := by
      unfold stepW stepR
      rw [show kkW ⟨r.L, r.l, r.h, s.made⟩ x = kkW s x from rfl, show othW ⟨r.L, r.l, r.h, s.made⟩ x = othW s x from rfl]
      split
      · exact ⟨rfl, rfl, rfl⟩
      split
      · exact ⟨rfl, rfl, rfl⟩
      split
      · exact ⟨rfl, rfl, rfl⟩
      split
      · exact ⟨rfl, rfl, rfl⟩
      split
      · exact ⟨rfl, rfl, rfl⟩
      exact ⟨rfl, rfl, rfl⟩
    obtain ⟨e1, e2, e3⟩ := e
    obtain ⟨a, b, c, d⟩ := hi
    rw [e1] at a d
    rw [e2] at b c
    rw [e3] at d
    exact ⟨a, b, c, d⟩
set_option maxHeartbeats 4000000 in
theorem step2_spec (s r : WS) (x : Ws) (hv : WInv s) (hr : WInv r) (hm : s.made.length ≤ 1000) (hx : x.path.length ≤ 4000000) : Does Tryz.prog 20 [.c (.ptr 0 0), .st (encWs x)] [.box [.ptr 2 0, .ptr 1 0, .ptr 5 0, .rw 9], .box [.ptr 2 0, .rw 4, .int .i64 s.h], .box [.rw 3], .row 6 Ob encOb s.L, .row 5 It encIt s.l, .box [.ptr 6 0, .rw 8, .int .i64 r.h], .box [.rw 7], .row 6 Ob encOb r.L, .row 5 It encIt r.l, .row 1 Int encI s.made] (Rt (.c (.bool (stepB s r x))) [.box [.ptr 2 0, .ptr 1 0, .ptr 5 0, .rw 14], .box [.ptr 2 0, .rw 11, .int .i64 (stepW s x).h], .box [.rw 10], .dead, .dead, .box [.ptr 6 0, .rw 13, .int .i64 (stepR s r x).h], .box [.rw 12], .dead, .dead, .dead, .row 6 Ob encOb (stepW s x).L, .row 5 It encIt (stepW s x).l, .row 6 Ob encOb (stepR s r x).L, .row 5 It encIt (stepR s r x).l, .row 1 Int encI (stepW s x).made]) := by
  obtain ⟨hL, hW, hbl, hh⟩ := hv
  have hp := WInv.paths ⟨hL, hW, hbl, hh⟩
  have hl := hW.len
  obtain ⟨hM, hW2, hbl2, hh2⟩ := hr
  have hp2 := WInv.paths ⟨hM, hW2, hbl2, hh2⟩
  have hl2 := hW2.len
  obtain ⟨L, l, h, made⟩ := s
  obtain ⟨M, m, g, mr⟩ := r
  obtain ⟨xw, xk, xr, xp, xt, xb, xo⟩ := x
  dsimp only at hL hW hbl hh hp hl hm hx hM hW2 hbl2 hh2 hp2 hl2
  refine X_spec (n := 192) (n0 := 10) tabOk Tryz.call20 Tryz.func20 ?_
  intro hb
  have hkk : kkW ⟨L, l, h, made⟩ ⟨xw, xk, xr, xp, xt, xb, xo⟩ = if xo = true then xk else oneP made xk := rfl
  have hot : othW ⟨L, l, h, made⟩ ⟨xw, xk, xr, xp, xt, xb, xo⟩ = if xo = true then [oneP made xk] else [] := rfl
  generalize hS : stepW ⟨L, l, h, made⟩ ⟨xw, xk, xr, xp, xt, xb, xo⟩ = S
  generalize hR : stepR ⟨L, l, h, made⟩ ⟨M, m, g, mr⟩ ⟨xw, xk, xr, xp, xt, xb, xo⟩ = Rr
  generalize hB : stepB ⟨L, l, h, made⟩ ⟨M, m, g, mr⟩ ⟨xw, xk, xr, xp, xt, xb, xo⟩ = Bb
  (conv => whnf)
  refine ⟨false, .grow, (.l [0, 1, 2, 3, 4, 5, 6, 7]), by kernel_rfl, .inl ?_⟩
  (conv => whnf)
  refine cl [] [] (one_spec made xk) ?_
  (conv => whnf)
  refine boo (fun h0 => ?_) (fun h0 => ?_)
  · have h0 : xo = true := h0
    subst h0
    rw [if_pos rfl] at hkk hot
    (conv => whnf)
    refine dec (fun c0 => ?_) (fun c0 => ?_)
    · unfold stepW at hS
      unfold stepR at hR
      unfold stepB at hB
      dsimp only at hS hR hB
      rw [if_pos c0] at hS hR hB
      subst hS hR hB
      have p1 := write_wspec L l h xp xb hx hp hl
      have p2 := writeD_wspec M m g xp xb hx hp2 hl2
      rw [show wrD m xp xb = wrW m xp xb by unfold wrD wrW; rw [put_same' hW2]] at p2
      generalize wrW l xp xb = R at *
      generalize wrW m xp xb = R2 at *
      obtain ⟨c, l'⟩ := R
      obtain ⟨d, m'⟩ := R2
      (conv => whnf)
      refine ⟨false, .prot [0, 10], (.l [0, 1, 2, 3, 4, 5, 6, 7, 9, 10, 11, 12, 13, 14, 15, 16, 8, 17, 18, 19]), by kernel_rfl, .inl ?_⟩
      (conv => whnf)
      refine cl [] [1, 2, 3, 4] (p1) ?_
      (conv => whnf)
      refine cl [] [5, 6, 7, 8] (p2) ?_
      (conv => whnf)
      refine rt [] [.same 0, .same 1, .same 2, .same 3, .same 4, .same 5, .same 6, .same 7, .same 8, .same 9, .same 11, .same 12, .same 13, .same 14, .same 9] ?_ rfl ⟨rfl, rfl⟩
      repeat' first | exact trivial | exact rfl | refine And.intro ?_ ?_
    (conv => whnf)
    refine dec (fun c1 => ?_) (fun c1 => ?_)
    · unfold stepW at hS
      unfold stepR at hR
      unfold stepB at hB
      dsimp only at hS hR hB
      rw [if_neg c0, if_pos c1] at hS hR hB
      subst hS hR hB
      have p1 := remove_wspec L l h xp hl
      have p2 := removeD_wspec M m g xp hl2
      rw [← rem_same hW2] at p2
      generalize remW l xp = R at *
      generalize remW m xp = R2 at *
      obtain ⟨c, l'⟩ := R
      obtain ⟨d, m'⟩ := R2
      (conv => whnf)
      refine ⟨false, .prot [0, 10], (.l [0, 1, 2, 3, 4, 5, 7, 8, 9, 10, 11, 12, 6, 13, 14, 15]), by kernel_rfl, .inl ?_⟩
      (conv => whnf)
      refine cl [] [1, 2, 3, 4] (p1) ?_
      (conv => whnf)
      refine cl [] [5, 6, 7, 8] (p2) ?_
      (conv => whnf)
      refine rt [] [.same 0, .same 1, .same 2, .same 3, .same 4, .same 5, .same 6, .same 7, .same 8, .same 9, .same 11, .same 12, .same 13, .same 14, .same 9] ?_ rfl ⟨rfl, rfl⟩
      repeat' first | exact trivial | exact rfl | refine And.intro ?_ ?_
    (conv => whnf)
    refine dec (fun c2 => ?_) (fun c2 => ?_)
    · unfold stepW at hS
      unfold stepR at hR
      unfold stepB at hB
      dsimp only at hS hR hB
      rw [if_neg c0, if_neg c1, if_pos c2] at hS hR hB
      rw [hkk] at hS hR hB
      subst hS hR hB
      have p1 := link_wspec L hL l h xp xr xk hx hp hl
      have p2 := linkD_wspec M hM m g xp xr xk hx hp2 hl2
      rw [show liD M m xp xr xk = liW M m xp xr xk by unfold liD liW; rw [put_same' hW2]] at p2
      generalize liW L l xp xr xk = R at *
      generalize liW M m xp xr xk = R2 at *
      obtain ⟨c, l'⟩ := R
      obtain ⟨d, m'⟩ := R2
      (conv => whnf)
      refine ⟨false, .prot [0, 10], (.l [0, 1, 2, 3, 4, 5, 6, 7, 8, 10, 11, 12, 13, 14, 15, 16, 17, 18, 9, 19, 20, 21]), by kernel_rfl, .inl ?_⟩
      (conv => whnf)
      refine cl [] [1, 2, 3, 4] (p1) ?_
      (conv => whnf)
      refine cl [] [5, 6, 7, 8] (p2) ?_
      (conv => whnf)
      refine rt [] [.same 0, .same 1, .same 2, .same 3, .same 4, .same 5, .same 6, .same 7, .same 8, .same 9, .same 11, .same 12, .same 13, .same 14, .same 9] ?_ rfl ⟨rfl, rfl⟩
      repeat' first | exact trivial | exact rfl | refine And.intro ?_ ?_
    (conv => whnf)
    refine dec (fun c3 => ?_) (fun c3 => ?_)
    · unfold stepW at hS
      unfold stepR at hR
      unfold stepB at hB
      dsimp only at hS hR hB
      rw [if_neg c0, if_neg c1, if_neg c2, if_pos c3] at hS hR hB
      rw [hot] at hS hR hB
      subst hS hR hB
      have p1 := commit_wspec L hL l h hp hl xt [oneP made xk] (by simp) hh
      have p2 := commitD_wspec M hM m g hp2 hl2 xt [oneP made xk] (by simp) hh2
      generalize headW L l h xt [oneP made xk] = h' at *
      generalize commW L l h xt [oneP made xk] = R at *
      obtain ⟨id, c, L'⟩ := R
      generalize headW M m g xt [oneP made xk] = g' at *
      generalize commW M m g xt [oneP made xk] = R2 at *
      obtain ⟨id2, d, M'⟩ := R2
      dsimp only at p1 p2
      (conv => whnf)
      refine ⟨false, .grow, (.l [0, 1, 2, 3, 4, 5, 6, 7, 8]), by kernel_rfl, .inl ?_⟩
      (conv => whnf)
      refine cl [] [] (one_spec made xk) ?_
      (conv => whnf)
      refine ⟨[oneP made xk], rfl, ?_⟩
      (conv => whnf)
      refine ⟨false, .grow, (.l [0, 1, 2, 3, 4, 5, 6, 7, 8, 9, 10, 11, 12]), by kernel_rfl, .inl ?_⟩
      (conv => whnf)
      refine cl [] [1, 2, 3, 4] (p1) ?_
      (conv => whnf)
      refine ⟨false, .grow, (.l [0, 1, 2, 3, 4, 5, 6, 7, 8, 9, 10, 11, 12]), by kernel_rfl, .inl ?_⟩
      (conv => whnf)
      refine cl [] [5, 6, 7, 8] (p2) ?_
      (conv => whnf)
      refine dec (fun g0 => ?_) (fun g0 => ?_)
      · rw [if_pos g0]
        (conv => whnf)
        refine ⟨[id], rfl, ?_⟩
        (conv => whnf)
        refine ⟨_, _, rfl, rfl, (by simp only [List.length_append, List.length_cons, List.length_nil]; omega), ?_⟩
        (conv => whnf)
        refine dec (fun q => ?_) (fun q => ?_)
        · rw [decide_eq_true q, Bool.true_and]
          (conv => whnf)
          refine rt [] [.same 0, .same 1, .same 2, .same 3, .same 4, .same 5, .same 6, .same 7, .same 8, .same 9, .same 12, .same 13, .same 14, .same 15, .same 17] ?_ rfl ⟨rfl, rfl⟩
          repeat' first | exact trivial | exact rfl | refine And.intro ?_ ?_
        · rw [decide_eq_false q, Bool.false_and]
          (conv => whnf)
          refine rt [] [.same 0, .same 1, .same 2, .same 3, .same 4, .same 5, .same 6, .same 7, .same 8, .same 9, .same 12, .same 13, .same 14, .same 15, .same 17] ?_ rfl ⟨rfl, rfl⟩
          repeat' first | exact trivial | exact rfl | refine And.intro ?_ ?_
      · rw [if_neg g0]
        (conv => whnf)
        refine dec (fun q => ?_) (fun q => ?_)
        · rw [decide_eq_true q, Bool.true_and]
          (conv => whnf)
          refine rt [] [.same 0, .same 1, .same 2, .same 3, .same 4, .same 5, .same 6, .same 7, .same 8, .same 9, .same 12, .same 13, .same 14, .same 15, .same 9] ?_ rfl ⟨rfl, rfl⟩
          repeat' first | exact trivial | exact rfl | refine And.intro ?_ ?_
        · rw [decide_eq_false q, Bool.false_and]
          (conv => whnf)
          refine rt [] [.same 0, .same 1, .same 2, .same 3, .same 4, .same 5, .same 6, .same 7, .same 8, .same 9, .same 12, .same 13, .same 14, .same 15, .same 9] ?_ rfl ⟨rfl, rfl⟩
          repeat' first | exact trivial | exact rfl | refine And.intro ?_ ?_
    (conv => whnf)
    refine dec (fun c4 => ?_) (fun c4 => ?_)
    · unfold stepW at hS
      unfold stepR at hR
      unfold stepB at hB
      dsimp only at hS hR hB
      rw [if_neg c0, if_neg c1, if_neg c2, if_neg c3, if_pos c4] at hS hR hB
      rw [hkk] at hS hR hB
      subst hS hR hB
      have p1 := checkout_wspec L hL l h hp hl xk
      have p2 := checkoutD_wspec M hM m g hp2 hl2 xk hh2
      generalize coC L l h xk = c at *
      generalize coL L l xk = L' at *
      generalize coW L l h xk = l' at *
      generalize coH L l h xk = h' at *
      generalize coC M m g xk = d at *
      generalize coL M m xk = M' at *
      generalize coW M m g xk = m' at *
      generalize coH M m g xk = g' at *
      (conv => whnf)
      refine ⟨false, .prot [0, 10], (.l [0, 1, 2, 3, 4, 6, 7, 8, 9, 10, 5, 11, 12, 13]), by kernel_rfl, .inl ?_⟩
      (conv => whnf)
      refine cl [] [1, 2, 3, 4] (p1) ?_
      (conv => whnf)
      refine cl [] [5, 6, 7, 8] (p2) ?_
      (conv => whnf)
      refine rt [] [.same 0, .same 1, .same 2, .same 3, .same 4, .same 5, .same 6, .same 7, .same 8, .same 9, .same 11, .same 12, .same 13, .same 14, .same 9] ?_ rfl ⟨rfl, rfl⟩
      repeat' first | exact trivial | exact rfl | refine And.intro ?_ ?_
    (conv => whnf)
    refine dec (fun c5 => ?_) (fun c5 => ?_)
    · unfold stepW at hS
      unfold stepR at hR
      unfold stepB at hB
      dsimp only at hS hR hB
      rw [if_neg c0, if_neg c1, if_neg c2, if_neg c3, if_neg c4, if_pos c5] at hS hR hB
      rw [hkk] at hS hR hB
      subst hS hR hB
      have hfi := (files_fine hL (getP L xk).tree).2
      have p0 := flatFiles_spec L hL (getP L xk).tree
      have p1 := lay_top L hL l h (filesP L (getP L xk).tree).1 hfi
      have p2 := layD_top M hM m g (filesP L (getP L xk).tree).1 hfi
      (conv => whnf)
      refine cl [] [] (get_spec L hL xk) ?_
      generalize filesP L (getP L xk).tree = F at *
      obtain ⟨fs, fc⟩ := F
      dsimp only at p1 p2 hfi
      generalize (buildP L fs).2.2 = L' at *
      generalize layW L l fs = l' at *
      generalize layC L fs = c at *
      generalize (buildP M fs).2.2 = M' at *
      generalize layW M m fs = m' at *
      generalize layC M fs = d at *
      (conv => whnf)
      refine ⟨false, .grow, (.l [0, 1, 2, 3, 4, 5, 6, 7, 8, 9, 10, 11]), by kernel_rfl, .inl ?_⟩
      (conv => whnf)
      refine cl [] [] (p0) ?_
      (conv => whnf)
      refine ⟨false, .prot [0, 10], (.l [0, 1, 2, 3, 4, 6, 7, 8, 9, 10, 5, 11, 12, 13]), by kernel_rfl, .inl ?_⟩
      (conv => whnf)
      refine cl [] [1, 2, 3, 4] (p1) ?_
      (conv => whnf)
      refine cl [] [5, 6, 7, 8] (p2) ?_
      (conv => whnf)
      refine rt [] [.same 0, .same 1, .same 2, .same 3, .same 4, .same 5, .same 6, .same 7, .same 8, .same 9, .same 13, .same 14, .same 15, .same 16, .same 9] ?_ rfl ⟨rfl, rfl⟩
      repeat' first | exact trivial | exact rfl | refine And.intro ?_ ?_
    unfold stepW at hS
    unfold stepR at hR
    unfold stepB at hB
    dsimp only at hS hR hB
    rw [if_neg c0, if_neg c1, if_neg c2, if_neg c3, if_neg c4, if_neg c5] at hS hR hB
    subst hS hR hB
    (conv => whnf)
    refine rt [] [.same 0, .same 1, .same 2, .same 3, .same 4, .same 5, .same 6, .same 7, .same 8, .same 9, .same 3, .same 4, .same 7, .same 8, .same 9] ?_ rfl ⟨rfl, rfl⟩
    repeat' first | exact trivial | exact rfl | refine And.intro ?_ ?_
  · have h0 : xo = false := h0
    subst h0
    rw [if_neg (by simp)] at hkk hot
    generalize oneP made xk = kk at *
    (conv => whnf)
    refine dec (fun c0 => ?_) (fun c0 => ?_)
    · unfold stepW at hS
      unfold stepR at hR
      unfold stepB at hB
      dsimp only at hS hR hB
      rw [if_pos c0] at hS hR hB
      subst hS hR hB
      have p1 := write_wspec L l h xp xb hx hp hl
      have p2 := writeD_wspec M m g xp xb hx hp2 hl2
      rw [show wrD m xp xb = wrW m xp xb by unfold wrD wrW; rw [put_same' hW2]] at p2
      generalize wrW l xp xb = R at *
      generalize wrW m xp xb = R2 at *
      obtain ⟨c, l'⟩ := R
      obtain ⟨d, m'⟩ := R2
      (conv => whnf)
      refine ⟨false, .prot [0, 10], (.l [0, 1, 2, 3, 4, 5, 6, 7, 9, 10, 11, 12, 13, 14, 15, 16, 8, 17, 18, 19]), by kernel_rfl, .inl ?_⟩
      (conv => whnf)
      refine cl [] [1, 2, 3, 4] (p1) ?_
      (conv => whnf)
      refine cl [] [5, 6, 7, 8] (p2) ?_
      (conv => whnf)
      refine rt [] [.same 0, .same 1, .same 2, .same 3, .same 4, .same 5, .same 6, .same 7, .same 8, .same 9, .same 11, .same 12, .same 13, .same 14, .same 9] ?_ rfl ⟨rfl, rfl⟩
      repeat' first | exact trivial | exact rfl | refine And.intro ?_ ?_
    (conv => whnf)
    refine dec (fun c1 => ?_) (fun c1 => ?_)
    · unfold stepW at hS
      unfold stepR at hR
      unfold stepB at hB
      dsimp only at hS hR hB
      rw [if_neg c0, if_pos c1] at hS hR hB
      subst hS hR hB
      have p1 := remove_wspec L l h xp hl
      have p2 := removeD_wspec M m g xp hl2
      rw [← rem_same hW2] at p2
      generalize remW l xp = R at *
      generalize remW m xp = R2 at *
      obtain ⟨c, l'⟩ := R
      obtain ⟨d, m'⟩ := R2
      (conv => whnf)
      refine ⟨false, .prot [0, 10], (.l [0, 1, 2, 3, 4, 5, 7, 8, 9, 10, 11, 12, 6, 13, 14, 15]), by kernel_rfl, .inl ?_⟩
      (conv => whnf)
      refine cl [] [1, 2, 3, 4] (p1) ?_
      (conv => whnf)
      refine cl [] [5, 6, 7, 8] (p2) ?_
      (conv => whnf)
      refine rt [] [.same 0, .same 1, .same 2, .same 3, .same 4, .same 5, .same 6, .same 7, .same 8, .same 9, .same 11, .same 12, .same 13, .same 14, .same 9] ?_ rfl ⟨rfl, rfl⟩
      repeat' first | exact trivial | exact rfl | refine And.intro ?_ ?_
    (conv => whnf)
    refine dec (fun c2 => ?_) (fun c2 => ?_)
    · unfold stepW at hS
      unfold stepR at hR
      unfold stepB at hB
      dsimp only at hS hR hB
      rw [if_neg c0, if_neg c1, if_pos c2] at hS hR hB
      rw [hkk] at hS hR hB
      subst hS hR hB
      have p1 := link_wspec L hL l h xp xr kk hx hp hl
      have p2 := linkD_wspec M hM m g xp xr kk hx hp2 hl2
      rw [show liD M m xp xr kk = liW M m xp xr kk by unfold liD liW; rw [put_same' hW2]] at p2
      generalize liW L l xp xr kk = R at *
      generalize liW M m xp xr kk = R2 at *
      obtain ⟨c, l'⟩ := R
      obtain ⟨d, m'⟩ := R2
      (conv => whnf)
      refine ⟨false, .prot [0, 10], (.l [0, 1, 2, 3, 4, 5, 6, 7, 8, 10, 11, 12, 13, 14, 15, 16, 17, 18, 9, 19, 20, 21]), by kernel_rfl, .inl ?_⟩
      (conv => whnf)
      refine cl [] [1, 2, 3, 4] (p1) ?_
      (conv => whnf)
      refine cl [] [5, 6, 7, 8] (p2) ?_
      (conv => whnf)
      refine rt [] [.same 0, .same 1, .same 2, .same 3, .same 4, .same 5, .same 6, .same 7, .same 8, .same 9, .same 11, .same 12, .same 13, .same 14, .same 9] ?_ rfl ⟨rfl, rfl⟩
      repeat' first | exact trivial | exact rfl | refine And.intro ?_ ?_
    (conv => whnf)
    refine dec (fun c3 => ?_) (fun c3 => ?_)
    · unfold stepW at hS
      unfold stepR at hR
      unfold stepB at hB
      dsimp only at hS hR hB
      rw [if_neg c0, if_neg c1, if_neg c2, if_pos c3] at hS hR hB
      rw [hot] at hS hR hB
      subst hS hR hB
      have p1 := commit_wspec L hL l h hp hl xt [] (by simp) hh
      have p2 := commitD_wspec M hM m g hp2 hl2 xt [] (by simp) hh2
      generalize headW L l h xt [] = h' at *
      generalize commW L l h xt [] = R at *
      obtain ⟨id, c, L'⟩ := R
      generalize headW M m g xt [] = g' at *
      generalize commW M m g xt [] = R2 at *
      obtain ⟨id2, d, M'⟩ := R2
      dsimp only at p1 p2
      (conv => whnf)
      refine ⟨false, .grow, (.l [0, 1, 2, 3, 4, 5, 6, 7, 8, 9, 10, 11, 12]), by kernel_rfl, .inl ?_⟩
      (conv => whnf)
      refine cl [] [1, 2, 3, 4] (p1) ?_
      (conv => whnf)
      refine ⟨false, .grow, (.l [0, 1, 2, 3, 4, 5, 6, 7, 8, 9, 10, 11, 12]), by kernel_rfl, .inl ?_⟩
      (conv => whnf)
      refine cl [] [5, 6, 7, 8] (p2) ?_
      (conv => whnf)
      refine dec (fun g0 => ?_) (fun g0 => ?_)
      · rw [if_pos g0]
        (conv => whnf)
        refine ⟨[id], rfl, ?_⟩
        (conv => whnf)
        refine ⟨_, _, rfl, rfl, (by simp only [List.length_append, List.length_cons, List.length_nil]; omega), ?_⟩
        (conv => whnf)
        refine dec (fun q => ?_) (fun q => ?_)
        · rw [decide_eq_true q, Bool.true_and]
          (conv => whnf)
          refine rt [] [.same 0, .same 1, .same 2, .same 3, .same 4, .same 5, .same 6, .same 7, .same 8, .same 9, .same 11, .same 12, .same 13, .same 14, .same 16] ?_ rfl ⟨rfl, rfl⟩
          repeat' first | exact trivial | exact rfl | refine And.intro ?_ ?_
        · rw [decide_eq_false q, Bool.false_and]
          (conv => whnf)
          refine rt [] [.same 0, .same 1, .same 2, .same 3, .same 4, .same 5, .same 6, .same 7, .same 8, .same 9, .same 11, .same 12, .same 13, .same 14, .same 16] ?_ rfl ⟨rfl, rfl⟩
          repeat' first | exact trivial | exact rfl | refine And.intro ?_ ?_
      · rw [if_neg g0]
        (conv => whnf)
        refine dec (fun q => ?_) (fun q => ?_)
        · rw [decide_eq_true q, Bool.true_and]
          (conv => whnf)
          refine rt [] [.same 0, .same 1, .same 2, .same 3, .same 4, .same 5, .same 6, .same 7, .same 8, .same 9, .same 11, .same 12, .same 13, .same 14, .same 9] ?_ rfl ⟨rfl, rfl⟩
          repeat' first | exact trivial | exact rfl | refine And.intro ?_ ?_
        · rw [decide_eq_false q, Bool.false_and]
          (conv => whnf)
          refine rt [] [.same 0, .same 1, .same 2, .same 3, .same 4, .same 5, .same 6, .same 7, .same 8, .same 9, .same 11, .same 12, .same 13, .same 14, .same 9] ?_ rfl ⟨rfl, rfl⟩
          repeat' first | exact trivial | exact rfl | refine And.intro ?_ ?_
    (conv => whnf)
    refine dec (fun c4 => ?_) (fun c4 => ?_)
    · unfold stepW at hS
      unfold stepR at hR
      unfold stepB at hB
      dsimp only at hS hR hB
      rw [if_neg c0, if_neg c1, if_neg c2, if_neg c3, if_pos c4] at hS hR hB
      rw [hkk] at hS hR hB
      subst hS hR hB
      have p1 := checkout_wspec L hL l h hp hl kk
      have p2 := checkoutD_wspec M hM m g hp2 hl2 kk hh2
      generalize coC L l h kk = c at *
      generalize coL L l kk = L' at *
      generalize coW L l h kk = l' at *
      generalize coH L l h kk = h' at *
      generalize coC M m g kk = d at *
      generalize coL M m kk = M' at *
      generalize coW M m g kk = m' at *
      generalize coH M m g kk = g' at *
      (conv => whnf)
      refine ⟨false, .prot [0, 10], (.l [0, 1, 2, 3, 4, 6, 7, 8, 9, 10, 5, 11, 12, 13]), by kernel_rfl, .inl ?_⟩
      (conv => whnf)
      refine cl [] [1, 2, 3, 4] (p1) ?_
      (conv => whnf)
      refine cl [] [5, 6, 7, 8] (p2) ?_
      (conv => whnf)
      refine rt [] [.same 0, .same 1, .same 2, .same 3, .same 4, .same 5, .same 6, .same 7, .same 8, .same 9, .same 11, .same 12, .same 13, .same 14, .same 9] ?_ rfl ⟨rfl, rfl⟩
      repeat' first | exact trivial | exact rfl | refine And.intro ?_ ?_
    (conv => whnf)
    refine dec (fun c5 => ?_) (fun c5 => ?_)
    · unfold stepW at hS
      unfold stepR at hR
      unfold stepB at hB
      dsimp only at hS hR hB
      rw [if_neg c0, if_neg c1, if_neg c2, if_neg c3, if_neg c4, if_pos c5] at hS hR hB
      rw [hkk] at hS hR hB
      subst hS hR hB
      have hfi := (files_fine hL (getP L kk).tree).2
      have p0 := flatFiles_spec L hL (getP L kk).tree
      have p1 := lay_top L hL l h (filesP L (getP L kk).tree).1 hfi
      have p2 := layD_top M hM m g (filesP L (getP L kk).tree).1 hfi
      (conv => whnf)
      refine cl [] [] (get_spec L hL kk) ?_
      generalize filesP L (getP L kk).tree = F at *
      obtain ⟨fs, fc⟩ := F
      dsimp only at p1 p2 hfi
      generalize (buildP L fs).2.2 = L' at *
      generalize layW L l fs = l' at *
      generalize layC L fs = c at *
      generalize (buildP M fs).2.2 = M' at *
      generalize layW M m fs = m' at *
      generalize layC M fs = d at *
      (conv => whnf)
      refine ⟨false, .grow, (.l [0, 1, 2, 3, 4, 5, 6, 7, 8, 9, 10, 11]), by kernel_rfl, .inl ?_⟩
      (conv => whnf)
      refine cl [] [] (p0) ?_
      (conv => whnf)
      refine ⟨false, .prot [0, 10], (.l [0, 1, 2, 3, 4, 6, 7, 8, 9, 10, 5, 11, 12, 13]), by kernel_rfl, .inl ?_⟩
      (conv => whnf)
      refine cl [] [1, 2, 3, 4] (p1) ?_
      (conv => whnf)
      refine cl [] [5, 6, 7, 8] (p2) ?_
      (conv => whnf)
      refine rt [] [.same 0, .same 1, .same 2, .same 3, .same 4, .same 5, .same 6, .same 7, .same 8, .same 9, .same 13, .same 14, .same 15, .same 16, .same 9] ?_ rfl ⟨rfl, rfl⟩
      repeat' first | exact trivial | exact rfl | refine And.intro ?_ ?_
    unfold stepW at hS
    unfold stepR at hR
    unfold stepB at hB
    dsimp only at hS hR hB
    rw [if_neg c0, if_neg c1, if_neg c2, if_neg c3, if_neg c4, if_neg c5] at hS hR hB
    subst hS hR hB
    (conv => whnf)
    refine rt [] [.same 0, .same 1, .same 2, .same 3, .same 4, .same 5, .same 6, .same 7, .same 8, .same 9, .same 3, .same 4, .same 7, .same 8, .same 9] ?_ rfl ⟨rfl, rfl⟩
    repeat' first | exact trivial | exact rfl | refine And.intro ?_ ?_
end Go.Nest
end
