/- PLAIN LAWS, K16: what lies in front of one, again. -/
import Derived.Test.YtogallppofinhaaGreatDoorK12
import Derived.Test.YtogallppofinhaaGreatDoorU0
import Derived.Test.YtogallppofinhaaGreatDoorK14
section
namespace Go.Nest
open Go Go.AM
set_option linter.unusedVariables false
set_option linter.unusedSimpArgs false
/-- no more commits -/
def NoCom (L M : List Ob) : Prop := ∀ id, kindOf M id = 3 → kindOf L id = 3
theorem NoCom.refl (L : List Ob) : NoCom L L := fun _ h => h
theorem NoCom.trans {L M N : List Ob} (h1 : NoCom L M) (h2 : NoCom M N) : NoCom L N := fun id h => h1 id (h2 id h)
theorem put_nocom {L : List Ob} {o : Ob} (ho : o.kind ≠ 3) : NoCom L (putP L o).2.2 := fun id h => by
  rcases put_new (L := L) (o := o) (id := id) (by omega) with h1 | h1
  · rw [← ext_kind (put_ext o) h1]; exact h
  · rw [← getP_kind, h1] at h; exact absurd h ho
theorem goB_nocom : ∀ (n : Nat) (L : List Ob) (acc : List Ent) (l : List Fi), NoCom L (goB n L acc l).2.2
  | 0, L, _, _ => .refl L
  | n + 1, L, acc, [] => put_nocom (fun h => by cases h)
  | n + 1, L, acc, f :: r => by
    unfold goB
    split
    · exact goB_nocom n L _ r
    have h1 := goB_nocom n L [] (insideP (cutP f.path).1 (f :: r)).1
    split
    · exact h1
    · exact h1.trans (goB_nocom n _ _ _)
theorem buildP_nocom {L : List Ob} {l : List Fi} : NoCom L (buildP L l).2.2 := by
  unfold buildP
  split
  · exact .refl L
  · exact goB_nocom _ _ _ _
theorem filesW_nocom : ∀ {l : List It} {L : List Ob} {out : List Fi}, NoCom L (filesW L l out).2.2
  | [], L, out => .refl L
  | x :: r, L, out => by
    unfold filesW
    split
    · exact filesW_nocom
    split
    · exact put_nocom (fun h => by cases h)
    · exact (put_nocom (fun h => by cases h)).trans filesW_nocom
theorem treeW_nocom {L : List Ob} {l : List It} : NoCom L (treeW L l).2.2 := by
  unfold treeW
  split
  · exact filesW_nocom
  · exact filesW_nocom.trans buildP_nocom
/-- links have no bytes -/
def NB (l : List It) : Prop := ∀ x ∈ l, x.link = true → x.bytes = []
theorem filesW_more : ∀ {l : List It} {L : List Ob} {out : List Fi}, PoolOk L → (filesW L l out).2.1 = 0 → ∃ gs, (filesW L l out).1 = out ++ gs ∧
    (∀ M, PoolOk M → (filesW L l out).2.2 <+: M → (∀ o2, filesW M l o2 = (o2 ++ gs, 0, M)) ∧ (NB l → (gs.map (layF M)).map docW = l.map docW))
  | [], L, out, hp, h => ⟨[], by simp [filesW], fun M hM hx => ⟨fun o2 => by simp [filesW], fun _ => rfl⟩⟩
  | x :: r, L, out, hp, h => by
    unfold filesW at h ⊢
    split
    · rename_i hl
      rw [if_pos hl] at h
      obtain ⟨gs, g1, g2⟩ := filesW_more hp h
      refine ⟨lnF x :: gs, by rw [g1]; simp, fun M hM hx => ?_⟩
      obtain ⟨g3, g4⟩ := g2 M hM hx
      refine ⟨fun o2 => ?_, fun hn => ?_⟩
      · rw [g3]; simp
      · rw [List.map_cons, List.map_cons, List.map_cons, g4 fun y hy => hn y (by simp [hy])]
        have := hn x (by simp) hl
        show docW (layF M (lnF x)) :: _ = _
        unfold layF lnF docW
        rw [if_pos rfl, this]
    · rename_i hl
      rw [if_neg hl] at h
      split
      · rename_i h2; rw [if_pos h2] at h; exact absurd h h2
      · rename_i h2
        rw [if_neg h2] at h
        have h2 := Decidable.not_not.1 h2
        obtain ⟨gs, g1, g2⟩ := filesW_more (putP_ok hp (blobO x.bytes)) h
        refine ⟨⟨x.path, 1, (putP L (blobO x.bytes)).1, 0⟩ :: gs, by rw [g1]; simp, fun M hM hx => ?_⟩
        obtain ⟨g3, g4⟩ := g2 M hM hx
        have hxx := (filesW_ok (l := r) (out := out ++ [⟨x.path, 1, (putP L (blobO x.bytes)).1, 0⟩]) (putP_ok hp (blobO x.bytes))).2.trans hx
        obtain ⟨p1, p2⟩ := put_more (fun h => by cases h) h2 hM hxx
        refine ⟨fun o2 => ?_, fun hn => ?_⟩
        · rw [p1, if_neg (by simp), g3]; simp
        · rw [List.map_cons, List.map_cons, List.map_cons, g4 fun y hy => hn y (by simp [hy])]
          have e : docW (layF M ⟨x.path, 1, (putP L (blobO x.bytes)).1, 0⟩) = docW x := by
            unfold layF
            dsimp only
            rw [if_neg (by decide), p2]; rfl
          rw [e]
theorem filesW_ref : ∀ {l : List It} {L : List Ob} {out : List Fi}, PoolOk L → (filesW L l out).2.1 ≠ 0 → ∀ M, PoolOk M → (filesW L l out).2.2 = M → ∀ o2, filesW M l o2 = ([], (filesW L l out).2.1, M)
  | [], L, out, hp, h, M, hM, hx, o2 => by simp [filesW] at h
  | x :: r, L, out, hp, h, M, hM, hx, o2 => by
    unfold filesW at h hx ⊢
    split
    · rename_i hl
      rw [if_pos hl] at h hx
      exact filesW_ref hp h M hM hx _
    · rename_i hl
      rw [if_neg hl] at h hx
      by_cases h2 : (putP L (blobO x.bytes)).2.1 ≠ 0
      · rw [if_pos h2] at h hx ⊢
        dsimp only at hx
        rw [put_no h2] at hx
        subst hx
        rw [if_pos h2, put_no h2]
      · rw [if_neg h2] at h hx ⊢
        have hxx := (filesW_ok (l := r) (out := out ++ [⟨x.path, 1, (putP L (blobO x.bytes)).1, 0⟩]) (putP_ok hp (blobO x.bytes))).2
        obtain ⟨p1, p2⟩ := put_more (fun h => by cases h) (Decidable.not_not.1 h2) hM (hx ▸ hxx)
        rw [p1, if_neg (by simp)]
        exact filesW_ref (putP_ok hp _) h M hM hx _
/-- a tree that is kept, and its files -/
structure Kept (L : List Ob) (t : Int) (fs : List Fi) : Prop where
  tree : TreeOf true L t fs
  ok : filesF fs = 0
theorem Kept.mono {L M : List Ob} {t : Int} {fs : List Fi} (h : Kept L t fs) (hx : L <+: M) : Kept M t fs := ⟨h.tree.mono hx, h.ok⟩
theorem Kept.files {L : List Ob} {t : Int} {fs : List Fi} (h : Kept L t fs) (hp : PoolOk L) : filesP L t = (fs, 0) :=
  tree_files hp h.tree (filesF_all h.ok).1 fun f hf => (split_zero ((filesF_all h.ok).2 f hf).1).2.1
theorem Kept.build {L : List Ob} {t : Int} {fs : List Fi} (h : Kept L t fs) (hp : PoolOk L) : buildP L fs = (t, 0, L) := by
  unfold buildP
  rw [if_neg (by simpa using h.ok)]
  exact (tree_again hp h.tree (Nat.lt_succ_self _)).2 rfl
theorem Kept.of {L : List Ob} {fs : List Fi} (hp : PoolOk L) (h : (buildP L fs).2.1 = 0) : Kept (buildP L fs).2.2 (buildP L fs).1 fs := ⟨(buildP_tree hp h).2, (buildP_tree hp h).1⟩
theorem Ents.blob {ne : Bool} {L : List Ob} (hp : PoolOk L) {es : List Ent} {l : List Fi} (h : Ents ne L es l) : (∀ e ∈ es, EntOk L e) → ∀ f ∈ l, f.mode ≠ 3 → f.mode = 1 ∧ kindOf L f.id = 1 ∧ f.repo = 0 := by
  induction h with
  | nil => intro _ f hf; cases hf
  | @file e es l hm h ih =>
    intro he f hf hne
    rcases List.mem_cons.1 hf with rfl | hf
    · have q := he e (by simp)
      have q1 := q.m1
      have q3 := q.m3
      have qk := q.kind
      have ql := q.link
      dsimp only at hne ⊢
      exact ⟨by omega, by omega, by omega⟩
    · exact ih (fun x hx => he x (by simp [hx])) f hf hne
  | @dir e es m l hm hk hne h1 h ih1 ih =>
    intro he f hf hn
    rcases List.mem_append.1 hf with hf | hf
    · obtain ⟨g, hg, rfl⟩ := List.mem_map.1 hf
      exact ih1 (tree_ok hp hk).2 g hg hn
    · exact ih (fun x hx => he x (by simp [hx])) f hf hn
theorem Kept.blob {L : List Ob} {t : Int} {fs : List Fi} (h : Kept L t fs) (hp : PoolOk L) : ∀ f ∈ fs, f.mode ≠ 3 → f.mode = 1 ∧ kindOf L f.id = 1 ∧ f.repo = 0 :=
  h.tree.2.blob hp (tree_ok hp h.tree.1).2
/-- laid files are these files -/
theorem lay_files {L : List Ob} (hp : PoolOk L) : ∀ {fs : List Fi}, (∀ f ∈ fs, f.mode ≠ 3 → f.mode = 1 ∧ kindOf L f.id = 1 ∧ f.repo = 0) → ∀ out, filesW L (fs.map (layF L)) out = (out ++ fs, 0, L)
  | [], _, out => by simp [filesW]
  | f :: r, h, out => by
    have ih := lay_files hp (fs := r) (fun g hg => h g (by simp [hg]))
    rw [List.map_cons]
    by_cases hm : f.mode = 3
    · unfold filesW
      have e : layF L f = ⟨f.path, [], true, f.id, f.repo⟩ := if_pos hm
      rw [e, if_pos rfl, ih]
      have : lnF ⟨f.path, [], true, f.id, f.repo⟩ = f := by
        unfold lnF; dsimp only; rw [← hm]
      rw [this]; simp
    · unfold filesW
      have e : layF L f = ⟨f.path, (getP L f.id).bytes, false, 0, 0⟩ := if_neg hm
      obtain ⟨q1, q2, q3⟩ := h f (by simp) hm
      rw [e, if_neg (by simp)]
      dsimp only
      rw [← blob_of hp q2, put_at hp (by omega), if_neg (by simp), ih]
      have : (⟨f.path, 1, f.id, 0⟩ : Fi) = f := by rw [← q1, ← q3]
      rw [this]; simp
theorem lay_nb (L : List Ob) (fs : List Fi) : NB (fs.map (layF L)) := fun x hx hl => by
  obtain ⟨f, hf, rfl⟩ := List.mem_map.1 hx
  unfold layF at hl ⊢
  split
  · rfl
  · rename_i h; rw [if_neg h] at hl; cases hl
theorem Kept.tree_lay {L : List Ob} {t : Int} {fs : List Fi} (h : Kept L t fs) (hp : PoolOk L) : treeW L (fs.map (layF L)) = (t, 0, L) := by
  unfold treeW
  rw [lay_files hp (h.blob hp), if_neg (by simp)]
  exact h.build hp
/-- each commit's tree is kept -/
def CInv (L : List Ob) : Prop := ∀ id, kindOf L id = 3 → ∃ fs, Kept L (getP L id).tree fs
theorem CInv.mono {L M : List Ob} (h : CInv L) (hx : L <+: M) (hn : NoCom L M) : CInv M := fun id hk => by
  have h1 := hn id hk
  obtain ⟨fs, hf⟩ := h id h1
  refine ⟨fs, ?_⟩
  rw [ext_get hx (by omega)]
  exact hf.mono hx
/-- a tree that was made, again -/
theorem treeW_more {L : List Ob} (hp : PoolOk L) {l : List It} (h : (treeW L l).2.1 = 0) : ∃ fs, Kept (treeW L l).2.2 (treeW L l).1 fs ∧ (filesW L l []).1 = fs ∧ (filesW L l []).2.1 = 0 ∧
    (∀ M, PoolOk M → (filesW L l []).2.2 <+: M → filesW M l [] = (fs, 0, M) ∧ (NB l → (fs.map (layF M)).map docW = l.map docW)) ∧ (∀ M, PoolOk M → (treeW L l).2.2 <+: M → treeW M l = ((treeW L l).1, 0, M)) := by
  unfold treeW at h ⊢
  split at h
  · exact absurd h ‹_›
  rename_i h1
  rw [if_neg h1]
  have h1 := Decidable.not_not.1 h1
  obtain ⟨gs, g1, g2⟩ := filesW_more hp h1
  obtain ⟨f1, f2⟩ := filesW_ok (l := l) (out := []) hp
  rw [List.nil_append] at g1
  rw [g1] at h ⊢
  have hk := Kept.of f1 h
  have hx2 := (buildP_ok f1 gs).2
  refine ⟨gs, hk, rfl, h1, fun M hM hx => ?_, fun M hM hx => ?_⟩
  · obtain ⟨g3, g4⟩ := g2 M hM hx
    exact ⟨by rw [g3]; rfl, g4⟩
  · obtain ⟨g3, g4⟩ := g2 M hM (hx2.trans hx)
    rw [g3, if_neg (by simp)]
    exact (hk.mono hx).build hM
end Go.Nest
end
/- PLAIN LAWS, K17: nothing is lost, and what was committed comes back. -/
section
namespace Go.Nest
open Go Go.AM
set_option linter.unusedVariables false
set_option linter.unusedSimpArgs false
structure WI2 (L : List Ob) (l : List It) : Prop where
  nb : NB l
  com : CInv L
theorem CInv.nil : CInv [] := fun id h => by
  have := kindOf_pos (l := []) (id := id) (by omega)
  exact absurd this.2 (Nat.not_lt_zero _)
theorem co_inv {L : List Ob} {l : List It} {h : Int} (hw : WInv ⟨L, l, h, []⟩) (id : Int) : WInv ⟨coL L l id, coW L l h id, coH L l h id, []⟩ := by
  have := (step_inv hw ⟨4, id, 0, [], [], [], true⟩).1
  unfold stepW kkW at this
  simpa using this
theorem cinv_put {M : List Ob} {t : Int} {fs : List Fi} {up : List Int} {text : List UInt8} (hc : CInv M) (hk : Kept M t fs) : CInv (putP M (comO t up text)).2.2 := fun id h3 => by
  have hx := put_ext (L := M) (comO t up text)
  rcases put_new (L := M) (o := comO t up text) (id := id) (by omega) with h | h
  · rw [ext_kind hx h] at h3
    obtain ⟨gs, hg⟩ := hc id h3
    exact ⟨gs, by rw [ext_get hx h]; exact hg.mono hx⟩
  · rw [h]
    exact ⟨fs, hk.mono hx⟩
theorem comm_cinv {L : List Ob} (hp : PoolOk L) (hc : CInv L) {l : List It} {h : Int} {text : List UInt8} {others : List Int} : CInv (commW L l h text others).2.2 := by
  have h1 := hc.mono (treeW_ok (l := l) hp).2 treeW_nocom
  unfold commW
  split
  · exact h1
  rename_i hz
  obtain ⟨fs, hk, -⟩ := treeW_more hp (Decidable.not_not.1 hz)
  split
  · exact h1
  split
  · exact cinv_put h1 hk
  · exact cinv_put h1 hk
theorem step_wi {s : WS} (h : WInv s) (h2 : WI2 s.L s.l) (x : Ws) : WI2 (stepW s x).L (stepW s x).l := by
  obtain ⟨L, l, hd, made⟩ := s
  obtain ⟨hL, hW, hbl, hh⟩ := h
  obtain ⟨hn, hc⟩ := h2
  dsimp only at hL hW hbl hh hn hc
  unfold stepW
  dsimp only
  split
  · refine ⟨?_, hc⟩
    show NB (wrW l x.path x.bytes).2
    unfold wrW
    split
    · exact hn
    · obtain ⟨a, b⟩ := put_ok hW ⟨x.path, x.bytes, false, 0, 0⟩
      intro y hy hl
      rcases b y hy with rfl | hy
      · cases hl
      · exact hn y hy hl
  split
  · obtain ⟨a, b⟩ := rem_ok hW x.path
    exact ⟨fun y hy => hn y (b y hy), hc⟩
  split
  · generalize kkW ⟨L, l, hd, made⟩ x = kk
    refine ⟨?_, hc⟩
    show NB (liW L l x.path x.repo kk).2
    unfold liW
    split
    · exact hn
    split
    · exact hn
    · obtain ⟨a, b⟩ := put_ok hW ⟨x.path, [], true, kk, x.repo⟩
      intro y hy hl
      rcases b y hy with rfl | hy
      · rfl
      · exact hn y hy hl
  split
  · exact ⟨hn, comm_cinv hL hc⟩
  split
  · generalize kkW ⟨L, l, hd, made⟩ x = kk
    refine ⟨?_, ?_⟩
    · show NB (coW L l hd kk)
      unfold coW
      split
      · exact hn
      · exact lay_nb _ _
    · show CInv (coL L l kk)
      unfold coL
      split
      · exact hc
      · exact hc.mono (treeW_ok (l := l) hL).2 treeW_nocom
  split
  · generalize kkW ⟨L, l, hd, made⟩ x = kk
    refine ⟨?_, hc.mono (buildP_ok hL _).2 buildP_nocom⟩
    show NB (layW L l (filesP L (getP L kk).tree).1)
    unfold layW
    split
    · exact hn
    · exact lay_nb _ _
  · exact ⟨hn, hc⟩
/-- a commit whose files are these, as they lie in front of one -/
def Had (L : List Ob) (id : Int) (ds : List Dc) : Prop := kindOf L id = 3 ∧ ∃ fs, Kept L (getP L id).tree fs ∧ (fs.map (layF L)).map docW = ds
theorem Kept.lay_mono {L M : List Ob} {t : Int} {fs : List Fi} (h : Kept L t fs) (hp : PoolOk L) (hx : L <+: M) : fs.map (layF M) = fs.map (layF L) := by
  refine List.map_congr_left fun f hf => ?_
  unfold layF
  split
  · rfl
  · rename_i hm
    rw [ext_get hx (by have := (h.blob hp f hf hm).2.1; omega)]
theorem Had.mono {L M : List Ob} {id : Int} {ds : List Dc} (h : Had L id ds) (hp : PoolOk L) (hx : L <+: M) : Had M id ds := by
  obtain ⟨h1, fs, h2, h3⟩ := h
  refine ⟨by rw [ext_kind hx (by omega)]; exact h1, fs, ?_, ?_⟩
  · rw [ext_get hx (by omega)]; exact h2.mono hx
  · rw [h2.lay_mono hp hx]; exact h3
def Hads (L : List Ob) (made : List Int) (docs : List (List Dc)) : Prop := docs.length = made.length ∧ ∀ (i : Nat) (h : i < made.length) (h2 : i < docs.length), Had L made[i] docs[i]
theorem Hads.nil (L : List Ob) : Hads L [] [] := ⟨rfl, fun i h => by cases h⟩
theorem Hads.mono {L M : List Ob} {made : List Int} {docs : List (List Dc)} (h : Hads L made docs) (hp : PoolOk L) (hx : L <+: M) : Hads M made docs := ⟨h.1, fun i a b => (h.2 i a b).mono hp hx⟩
theorem Hads.snoc {L : List Ob} {made : List Int} {docs : List (List Dc)} {id : Int} {ds : List Dc} (h : Hads L made docs) (h2 : Had L id ds) : Hads L (made ++ [id]) (docs ++ [ds]) := by
  obtain ⟨h1, h3⟩ := h
  refine ⟨by simp [h1], fun i a b => ?_⟩
  by_cases hi : i < made.length
  · rw [List.getElem_append_left hi, List.getElem_append_left (by omega)]
    exact h3 i hi (by omega)
  · rw [List.length_append, List.length_singleton] at a
    obtain rfl : i = made.length := by omega
    simp only [List.getElem_concat_length, h1.symm]
    simpa using h2
/-- it is clean, and looking at it puts nothing more -/
def Still (L : List Ob) (l : List It) (h : Int) : Prop := (treeW L l).2.1 = 0 ∧ (treeW L l).2.2 = L ∧ cleanW L l h = 0
theorem clean_parts {L : List Ob} {l : List It} {h : Int} (hc : cleanW L l h = 0) : (treeW L l).2.1 = 0 ∧ saysW (treeW L l).2.2 l h (treeW L l).1 = true := by
  unfold cleanW at hc
  split at hc
  · exact absurd hc ‹_›
  rename_i h1
  split at hc
  · exact ⟨Decidable.not_not.1 h1, ‹_›⟩
  · cases hc
theorem had_still {L : List Ob} (hp : PoolOk L) {id : Int} {fs : List Fi} (hk : kindOf L id = 3) (h : Kept L (getP L id).tree fs) : Still L (fs.map (layF L)) id := by
  have e := h.tree_lay hp
  refine ⟨by rw [e], by rw [e], ?_⟩
  unfold cleanW
  rw [e, if_neg (by simp)]
  dsimp only
  unfold saysW
  have := kindOf_pos (l := L) (id := id) (by omega)
  rw [if_neg this.1, if_pos (decide_eq_true rfl)]
theorem had_lay {L : List Ob} (hp : PoolOk L) {t : Int} {fs : List Fi} (h : Kept L t fs) : WOk (fs.map (layF L)) ∧ ∀ x ∈ fs.map (layF L), x.bytes.length ≤ 400 :=
  Go.Nest.tree_lay hp hp h.tree (fun f hf => (split_zero ((filesF_all h.ok).2 f hf).1).2.1) (filesF_all h.ok).1
/-- a kept commit is checked out -/
theorem co_had {L : List Ob} (hp : PoolOk L) {l : List It} {h : Int} (hs : Still L l h) {id : Int} {ds : List Dc} (hd : Had L id ds) :
    coC L l h id = 0 ∧ coL L l id = L ∧ (coW L l h id).map docW = ds ∧ coH L l h id = id ∧ Still L (coW L l h id) id ∧ WOk (coW L l h id) ∧ ∀ x ∈ coW L l h id, x.bytes.length ≤ 400 := by
  obtain ⟨hk, fs, h1, h2⟩ := hd
  obtain ⟨e1, e2, e3, e4⟩ := co_files (h := h) (l := l) hk hs.2.2
  rw [hs.2.1, h1.files hp] at e1 e3 e4
  rw [hs.2.1] at e2
  rw [if_neg (by simp)] at e3 e4
  dsimp only at e3 e4
  rw [e3, e4]
  obtain ⟨a, b⟩ := had_lay hp h1
  exact ⟨e1, e2, h2, rfl, had_still hp hk h1, a, b⟩
/-- NOTHING IS LOST -/
theorem safe {s : WS} (h : WInv s) (h2 : WI2 s.L s.l) {id : Int} (hc : coC (filesW s.L s.l []).2.2 s.l s.h id = 0) :
    statusW s.L s.l s.h = ([], 0) ∧ (s.h < 0 → s.l = []) ∧
    (0 ≤ s.h → coC (coL (filesW s.L s.l []).2.2 s.l id) (coW (filesW s.L s.l []).2.2 s.l s.h id) id s.h = 0 ∧
      (coW (coL (filesW s.L s.l []).2.2 s.l id) (coW (filesW s.L s.l []).2.2 s.l s.h id) id s.h).map docW = s.l.map docW ∧
      coH (coL (filesW s.L s.l []).2.2 s.l id) (coW (filesW s.L s.l []).2.2 s.l s.h id) id s.h = s.h) := by
  obtain ⟨L, l, hd, made⟩ := s
  obtain ⟨hL, hW, hbl, hh⟩ := h
  obtain ⟨hn, hcom⟩ := h2
  dsimp only at hL hW hbl hh hn hcom hc ⊢
  obtain ⟨f1, f2⟩ := filesW_ok (l := l) (out := []) hL
  have hfz : (filesW L l []).2.1 = 0 := by
    refine Decidable.byContradiction fun hne => ?_
    have e := filesW_ref hL hne _ f1 rfl []
    have hk : kindOf (filesW L l []).2.2 id = 3 := by
      by_cases hk : kindOf (filesW L l []).2.2 id = 3
      · exact hk
      · rw [(co_none (h := hd) (l := l) hk).1] at hc; cases hc
    have hcl : cleanW (filesW L l []).2.2 l hd ≠ 0 := by
      unfold cleanW treeW
      rw [e]
      dsimp only
      rw [if_pos hne, if_pos hne]
      exact hne
    rw [(co_bad (h := hd) (l := l) hk hcl).1] at hc
    exact hcl hc
  obtain ⟨gs, g1, g2⟩ := filesW_more hL hfz
  rw [List.nil_append] at g1
  have st : statusW L l hd = if hd < 0 then (diffP [] gs, 0) else
      if (filesP (filesW L l []).2.2 (getP (filesW L l []).2.2 hd).tree).2 ≠ 0 then ([], (filesP (filesW L l []).2.2 (getP (filesW L l []).2.2 hd).tree).2) else (diffP (filesP (filesW L l []).2.2 (getP (filesW L l []).2.2 hd).tree).1 gs, 0) := by
    unfold statusW
    rw [if_neg (by simpa using hfz), g1]
  rw [st]
  generalize hM : (filesW L l []).2.2 = M at *
  clear st
  have hh2 := hh.ext f2
  have hcom2 := hcom.mono f2 (hM ▸ filesW_nocom)
  have e1 := (g2 M f1 (List.prefix_refl _)).1 []
  have hk : kindOf M id = 3 := by
    by_cases hk : kindOf M id = 3
    · exact hk
    · rw [(co_none (h := hd) (l := l) hk).1] at hc; cases hc
  have hcl : cleanW M l hd = 0 := by
    by_cases hcl : cleanW M l hd = 0
    · exact hcl
    · rw [(co_bad (h := hd) (l := l) hk hcl).1] at hc; exact absurd hc hcl
  obtain ⟨c1, c2⟩ := clean_parts hcl
  obtain ⟨fs, k1, k2, k3, k4, k5⟩ := treeW_more f1 c1
  rw [e1, List.nil_append] at k2
  dsimp only at k2
  subst k2
  obtain ⟨t1, t2⟩ := treeW_ok (l := l) f1
  by_cases h0 : hd < 0
  · have : l = [] := by
      unfold saysW at c2
      rw [if_pos h0] at c2
      exact List.eq_nil_of_length_eq_zero (of_decide_eq_true c2)
    subst this
    have hg : gs = [] := by
      have := (g2 M f1 (List.prefix_refl _)).1 []
      unfold filesW at this
      simpa using this.symm
    rw [if_pos h0, hg]
    refine ⟨by unfold diffP; rfl, fun _ => rfl, fun h => by omega⟩
  · have hk3 := hh2.resolve_left h0
    have hkM : kindOf (treeW M l).2.2 hd = 3 := by rw [ext_kind t2 (by omega)]; exact hk3
    have ht : (getP (treeW M l).2.2 hd).tree = (treeW M l).1 := by
      unfold saysW at c2
      rw [if_neg h0] at c2
      exact of_decide_eq_true c2
    have hgt := ext_get t2 (k := hd) (by omega)
    obtain ⟨fs', hf'⟩ := hcom2 hd hk3
    have q1 := (hf'.mono t2).files t1
    have q2 := k1.files t1
    rw [← hgt, ht, q2] at q1
    obtain rfl : gs = fs' := congrArg (·.1) q1
    rw [if_neg h0, hf'.files f1, if_neg (by simp)]
    refine ⟨by rw [diff_self], fun h => absurd h h0, fun _ => ?_⟩
    have had : Had (treeW M l).2.2 hd (l.map docW) := by
      refine ⟨hkM, gs, by rw [ht]; exact k1, ?_⟩
      exact (g2 _ t1 t2).2 hn
    obtain ⟨e1, e2, e3, e4⟩ := co_files (h := hd) (l := l) hk hcl
    have hz' : (filesP (treeW M l).2.2 (getP M id).tree).2 = 0 := e1 ▸ hc
    rw [if_neg (fun h => h hz')] at e3
    obtain ⟨fi, hfi⟩ := hcom2 id hk
    have hfi2 := hfi.mono t2
    rw [hfi2.files t1] at e3
    dsimp only at e3
    rw [← ext_get t2 (k := id) (by omega)] at hfi2
    have hsti := had_still t1 (by rw [ext_kind t2 (by omega)]; exact hk) hfi2
    rw [e2, e3]
    obtain ⟨r1, r2, r3, r4, -⟩ := co_had t1 hsti had
    exact ⟨r1, r3, r4⟩
end Go.Nest
end
/- WALKS, K19: the law WorkSafe. -/
section
namespace Go.Nest
open Go Go.AM Go.Proofs
open Go.Proofs.YtogallppofinhaaGreatDoor (tab tabOk)
set_option linter.unusedVariables false
set_option linter.unusedSimpArgs false
set_option maxRecDepth 4000
theorem ws0_inv2 : WI2 ws0.L ws0.l := ⟨fun x h => (by cases h), CInv.nil⟩
set_option maxHeartbeats 1000000 in
theorem workSafe_spec (l : List Ws) (k : Int) (hl : WsFit l) : Does Tryz.prog 4 [.c (.ls 7 Ws encWs l), .c (.int .i64 k)] [] (Rt (.c (.bool true)) []) := by
  refine X_spec (n := 102) (n0 := 0) tabOk Tryz.call4 Tryz.func4 ?_
  intro hb; have hb : l.length ≤ 9223372036854775807 := hb.1.1
  (conv => whnf)
  refine cl [] [] (workBegun_spec) ?_
  (conv => whnf)
  refine cl [] [] (greatWork_spec l hl) ?_
  cases hg : greatW l with
  | true =>
    (conv => whnf)
    exact rtB rfl
  | false =>
  obtain ⟨hlen, hpath⟩ := greatW_ok hg
  (conv => whnf)
  refine cl [] [] (newPair_spec) ?_
  (conv => whnf)
  refine lp (Nat × WS) (fun p => ⟨[(0, .c (.ls 7 Ws encWs l)), (1, .c (.int .i64 k)), (5, .c (.ptr 0 0)), (6, .c (.int .i64 p.1))], [.box [.ptr 2 0, .ptr 1 0, .ptr 5 0, .rw 9], .box [.ptr 2 0, .rw 4, .int .i64 p.2.h], .box [.rw 3], .row 6 Ob encOb p.2.L, .row 5 It encIt p.2.l, .box [.ptr 6 0, .rw 8, .int .i64 p.2.h], .box [.rw 7], .row 6 Ob encOb p.2.L, .row 5 It encIt p.2.l, .row 1 Int encI p.2.made]⟩) (fun p => (p.1 ≤ l.length ∧ WInv p.2 ∧ WI2 p.2.L p.2.l ∧ p.2.made.length ≤ p.1) ∧ True) (fun p => l.length - p.1) (0, ws0) [] [.same 0, .same 1, .same 2, .same 3, .same 4, .same 5, .same 6, .same 7, .same 8, .same 9] ?_ ?_ (fun ⟨i, s⟩ hi => ?_)
  · exact ⟨⟨Nat.zero_le _, ws0_inv, ws0_inv2, Nat.le_refl _⟩, trivial⟩
  · repeat' first | exact trivial | exact rfl | refine And.intro ?_ ?_
  obtain ⟨⟨hi, hs, hs2, hm⟩, -⟩ := hi
  dsimp only at hi hs hs2 hm
  (conv => whnf)
  refine dec (fun h4 => ?_) (fun h4 => ?_)
  · have hlt : i < l.length := by omega
    have hiy : l[i]? = some l[i] := List.getElem?_eq_getElem hlt
    have b1 := hpath _ (List.getElem_mem hlt)
    generalize l[i] = x at *
    have p1 := step_spec s x hs (by omega) (by omega)
    obtain ⟨hs', hm', -⟩ := step_inv hs x
    have hs2' := step_wi hs hs2 x
    generalize stepW s x = s' at *
    (conv => whnf)
    refine ⟨i, x, rfl, hiy, ?_⟩
    (conv => whnf)
    refine cl [] [0, 1, 2, 3, 4, 5, 6, 7, 8, 9] (p1) ?_
    repeat' ((conv => whnf); first | (refine dec (fun h => ?_) (fun h => ?_) <;> try contradiction) | (refine decN (fun h => ?_) (fun h => ?_) <;> try contradiction) | refine booN (fun h => ?_) (fun h => ?_) | refine boo (fun h => ?_) (fun h => ?_) | refine ⟨i64 (by omega) (by omega), ?_⟩ | refine ⟨_, _, rfl, List.getElem?_eq_getElem (by omega), ?_⟩ | refine ⟨_, ⟨rfl, by omega⟩, ?_⟩ | refine ⟨_, List.getElem?_eq_getElem (by omega), ?_⟩ | refine rtB ?_ | refine rtI ?_ | refine rtC ?_ rfl | fail)
    refine ag (i + 1, s') [] [.same 0, .same 1, .same 2, .same 10, .same 11, .same 5, .same 6, .same 12, .same 13, .same 14] ⟨⟨hlt, hs', hs2', by show s'.made.length ≤ i + 1; omega⟩, trivial⟩ (by simp only []; omega) ?_
    repeat' first | exact trivial | exact rfl | refine And.intro ?_ ?_
  · have sf := fun id => safe (id := id) hs hs2
    have hh2 := hs.head.ext (filesW_ok (l := s.l) (out := []) hs.pool).2
    have hp := hs.paths
    obtain ⟨hL, hW, hbl, hh⟩ := hs
    obtain ⟨L, l', hd, made⟩ := s
    dsimp only at hL hW hbl hh hp hm sf hh2
    have hlw := hW.len
    have fo := filesW_ok (l := l') (out := []) hL
    have s1 := status_wspec L hL l' hd hp hlw
    generalize statusW L l' hd = S at *
    obtain ⟨ch, cs⟩ := S
    generalize (filesW L l' []).2.2 = L2 at *
    dsimp only at s1 sf fo
    have hw2 : WInv ⟨L2, l', hd, []⟩ := ⟨fo.1, hW, hbl, hh2⟩
    (conv => whnf)
    refine ⟨false, .grow, (.l [0, 1, 2, 3, 5, 6, 7, 8, 4, 9, 10, 11]), by kernel_rfl, .inl ?_⟩
    (conv => whnf)
    refine cl [] [] (docs_wspec L l' hd hlw hbl) ?_
    (conv => whnf)
    refine cl [] [] (head_wspec L l' hd) ?_
    (conv => whnf)
    refine cl [] [1, 2, 3, 4] (s1) ?_
    (conv => whnf)
    refine ⟨false, .grow, (.l [0, 1, 2, 3, 4, 5, 6, 7, 8, 9, 10, 11]), by kernel_rfl, .inl ?_⟩
    (conv => whnf)
    refine cl [] [] (one_spec made k) ?_
    generalize oneP made k = id at *
    have c1 := checkout_wspec L2 fo.1 l' hd hp hlw id
    have hw3 := co_inv hw2 id
    have sf := sf id
    by_cases hz : coC L2 l' hd id = 0
    · obtain ⟨z1, z2, z3⟩ := sf hz
      obtain ⟨rfl, rfl⟩ : ch = [] ∧ cs = 0 := ⟨congrArg (·.1) z1, congrArg (·.2) z1⟩
      rw [hz, show coH L2 l' hd id = id from if_neg (fun h => h hz)] at c1
      rw [show coH L2 l' hd id = id from if_neg (fun h => h hz)] at hw3
      generalize coL L2 l' id = L3 at *
      generalize coW L2 l' hd id = l3 at *
      (conv => whnf)
      refine cl [] [1, 2, 11, 12] (c1) ?_
      (conv => whnf)
      refine dec (fun h0 => ?_) (fun h0 => ?_)
      · obtain rfl := z2 h0
        (conv => whnf)
        exact rtB rfl
      · obtain ⟨y1, y2, y3⟩ := z3 (by omega)
        have c2 := checkout_wspec L3 hw3.pool l3 id hw3.paths hw3.ok.len hd
        have hw4 := co_inv hw3 hd
        rw [y1, y3] at c2
        have hp4 := hw4.ok.len
        have hb4 := hw4.bytes
        dsimp only at hp4 hb4
        generalize coL L3 l3 hd = L4 at *
        generalize coW L3 l3 id hd = l4 at *
        (conv => whnf)
        refine cl [] [1, 2, 14, 15] (c2) ?_
        (conv => whnf)
        refine cl [] [] (docs_wspec L4 l4 hd hp4 hb4) ?_
        rw [y2]
        (conv => whnf)
        refine cl [] [] (sameDocs_spec (l'.map docW)) ?_
        (conv => whnf)
        exact rtB rfl
    · rw [show coW L2 l' hd id = l' from if_pos hz, show coH L2 l' hd id = hd from if_pos hz] at c1
      generalize coL L2 l' id = L3 at *
      generalize coC L2 l' hd id = c at *
      (conv => whnf)
      refine cl [] [1, 2, 11, 12] (c1) ?_
      (conv => whnf)
      refine decN (fun _ => ?_) (fun h => absurd h hz)
      (conv => whnf)
      refine cl [] [] (docs_wspec L3 l' hd hlw hbl) ?_
      (conv => whnf)
      refine cl [] [] (sameDocs_spec (l'.map docW)) ?_
      (conv => whnf)
      refine cl [] [] (head_wspec L3 l' hd) ?_
      (conv => whnf)
      exact rtB (by rw [decide_eq_true_iff])
end Go.Nest
end
