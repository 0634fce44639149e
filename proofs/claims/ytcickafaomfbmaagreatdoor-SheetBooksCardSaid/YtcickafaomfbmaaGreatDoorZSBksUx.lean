/-
  Rows of lists of rows, by their numbers.
-/
import Derived.Test.YtcickafaomfbmaaGreatDoorZSBksIbR
import Derived.Test.YtcickafaomfbmaaGreatDoorZSBksTq
namespace Go.Proofs.YtcickafaomfbmaaGreatDoor
open Go.RowKit Kr
set_option linter.unusedVariables false

/-- A row of a list of rows, with its cells. -/
theorem lists_row {W : World} {q : Option Addr} {n c : Nat} {zs : List (List Int × Value)} (h : ListsAt W (.slice q n c) zs) (hn : zs.length = n) {k : Nat} (hk : k < n) :
    ∃ (b o : Nat) (x : List Int) (px : Option Addr) (cx : Nat), q = some ⟨b, o, none⟩ ∧ zs[k]? = some (x, .slice px x.length cx) ∧ W.cell? ⟨b, o + k, none⟩ = some (.slice px x.length cx) ∧ IsRow (fun x : Int => [.int .i64 x]) 1 W (.slice px x.length cx) x := by
  obtain ⟨p, b, o, cap, e, hm, hp, hc⟩ := h.row.ex
  cases e
  obtain ⟨rfl, _⟩ := hp (by omega)
  obtain ⟨⟨x, xv⟩, hx⟩ := some_of_lt (xs := zs) (k := k) (by omega)
  have hr := h.mem _ (List.mem_of_getElem? hx)
  obtain ⟨px, cx, e⟩ := hr.len
  dsimp only at e
  subst e
  have hd := hc k _ hx 0 _ rfl
  exact ⟨b, o, x, px, cx, rfl, hx, by simpa using hd, hr⟩
theorem cell_of_lays {W : World} {z o : Nat} {a b : Value} {t : TypeId} (hb : LaysAs W z (.cells [a, b].toArray t (0, 0))) : W.cell? ⟨z, o, none⟩ = ([a, b] : List Value)[o]? := by
  unfold LaysAs at hb
  simp [World.cell?, hb]
/-- The rows of a sheet of five numbers a row do not lie in the sheet's own box, nor their numbers. -/
theorem lists_off {W : World} {z N c : Nat} {k : Int} {q : Option Addr} {t : TypeId} {v : Value} {zs : List (List Int × Value)} (hb : LaysAs W z (.cells [.int .u8 k, .slice q N c].toArray t (0, 0))) (h : ListsAt W v zs) (hn : zs.length = N) (h5 : ∀ x ∈ zs, x.1.length = 5) (u1 u2 : Value) :
    ListsAt ((W.setCell ⟨z, 0, none⟩ u1).setCell ⟨z, 1, none⟩ u2) v zs := by
  have hrow : RowOff (fun x : List Int × Value => [x.2]) 1 W [z] v zs := by
    refine ⟨h.row, ?_⟩
    obtain ⟨p, b, o, cap, rfl, hm, hp, hc⟩ := h.row.ex
    rcases zs with _ | ⟨x, r⟩
    · exact .inl rfl
    · refine .inr fun g hg e => ?_
      rw [List.mem_singleton.1 hg] at e
      obtain ⟨rfl, hl⟩ := hp (by simp)
      simp [Value.ownBlock] at e
      subst e
      have h1 := hc 0 x rfl 0 _ rfl
      rw [cell_of_lays hb] at h1
      obtain ⟨px, cx, e2⟩ := (h.mem x (List.mem_cons_self ..)).len
      rw [e2, h5 x (List.mem_cons_self ..)] at h1
      match o with
      | 0 => simp at h1
      | 1 =>
        simp at h1
        obtain ⟨_, h2, _⟩ := h1
        rcases r with _ | ⟨y, r⟩
        · simp at hn; omega
        · have h3 := hc 1 y rfl 0 _ rfl
          rw [cell_of_lays hb] at h3
          simp at h3
      | o + 2 => simp at h1
  have hmem : ∀ x ∈ zs, RowOff (fun x : Int => [.int .i64 x]) 1 W [z] x.2 x.1 := fun x hx => by
    refine ⟨h.mem x hx, ?_⟩
    obtain ⟨p, b, o, cap, e0, hm, hp, hc⟩ := (h.mem x hx).ex
    refine .inr fun g hg e => ?_
    rw [List.mem_singleton.1 hg, e0] at e
    have hl5 := h5 x hx
    obtain ⟨rfl, hl⟩ := hp (by omega)
    simp [Value.ownBlock] at e
    subst e
    obtain ⟨y, hy⟩ := some_of_lt (xs := x.1) (k := 0) (by omega)
    have h1 := hc 0 y hy 0 _ rfl
    rw [cell_of_lays hb] at h1
    match o with
    | 0 => simp at h1
    | 1 => simp at h1
    | o + 2 => simp at h1
  exact ⟨((hrow.set (a := ⟨z, 0, none⟩) (by simp) u1).set (a := ⟨z, 1, none⟩) (by simp) u2).row, fun x hx => (((hmem x hx).set (a := ⟨z, 0, none⟩) (by simp) u1).set (a := ⟨z, 1, none⟩) (by simp) u2).row⟩
end Go.Proofs.YtcickafaomfbmaaGreatDoor
