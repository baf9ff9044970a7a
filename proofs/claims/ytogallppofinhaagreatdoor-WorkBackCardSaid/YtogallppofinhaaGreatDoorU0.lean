/- PLAIN LAWS, U0: what was put, put again. -/
import Derived.Test.YtogallppofinhaaGreatDoorK1b
import Derived.Test.YtogallppofinhaaGreatDoorP9
namespace Go.Nest
open Go Go.AM
set_option linter.unusedVariables false
set_option linter.unusedSimpArgs false
/-- what is there has its number again -/
theorem put_at {L : List Ob} (hp : PoolOk L) {id : Int} (hk : ¬ kindOf L id = 0) : putP L (getP L id) = (id, 0, L) := by
  obtain ⟨h1, h2⟩ := kindOf_pos hk
  rw [getP_at h1 h2, putP_again hp h2]
  simp
  omega
theorem blob_of {L : List Ob} (hp : PoolOk L) {id : Int} (hk : kindOf L id = 1) : getP L id = blobO (getP L id).bytes := by
  have h := hp.get (id := id) (by omega)
  have hk2 := getP_kind (l := L) (id := id)
  rw [hk] at hk2
  have h1 := h.ne (by omega)
  have h2 := h.nc (by omega)
  generalize getP L id = o at *
  obtain ⟨a, b, c, d, e, f⟩ := o
  simp only at hk2 h1 h2
  rw [hk2, h1, h2.1, h2.2.1, h2.2.2]; rfl
/-- what was put is put again -/
theorem put_more {L M : List Ob} {o : Ob} (ho : o.kind ≠ 0) (h : (putP L o).2.1 = 0) (hM : PoolOk M) (hx : (putP L o).2.2 <+: M) : putP M o = ((putP L o).1, 0, M) ∧ getP M (putP L o).1 = o := by
  obtain ⟨h1, h2⟩ := put_get h
  have hk : ¬ kindOf (putP L o).2.2 (putP L o).1 = 0 := by rw [← getP_kind, h2]; exact ho
  have e := ext_get hx hk
  rw [h2] at e
  have hk2 : ¬ kindOf M (putP L o).1 = 0 := by rw [ext_kind hx hk]; exact hk
  have := put_at hM hk2
  rw [e] at this
  exact ⟨this, e⟩
theorem put_new {L : List Ob} {o : Ob} {id : Int} (h : ¬ kindOf (putP L o).2.2 id = 0) : ¬ kindOf L id = 0 ∨ getP (putP L o).2.2 id = o := by
  unfold putP at h ⊢
  split
  · rename_i h1; rw [if_pos h1] at h; exact .inl h
  rename_i h1; rw [if_neg h1] at h
  split
  · rename_i h2; rw [if_pos h2] at h; exact .inl h
  rename_i h2; rw [if_neg h2] at h
  split
  · rename_i h3; rw [if_pos h3] at h; exact .inl h
  rename_i h3; rw [if_neg h3] at h
  split
  · rename_i h4; rw [if_pos h4] at h; exact .inl h
  rename_i h4; rw [if_neg h4] at h
  dsimp only at h ⊢
  obtain ⟨a, b⟩ := kindOf_pos h
  rw [List.length_append, List.length_singleton] at b
  by_cases hlt : id.toNat < L.length
  · left
    intro h0
    apply h
    have e : kindOf (L ++ [o]) id = kindOf L id := by
      unfold kindOf
      rw [if_neg a, if_neg a, List.getElem?_append_left hlt]
    rw [e]; exact h0
  · right
    have : id = (L.length : Nat) := by omega
    rw [this]; exact getP_end
end Go.Nest
