/-
  Rows of lists of rows, by their numbers.
-/
import Derived.Test.YtcickafaomfbmaaGreatDoorZSJesIbR
namespace Go.Proofs.YtcickafaomfbmaaGreatDoor
open Go.RowKit Kr
set_option linter.unusedVariables false

/-- A row of a list of rows, with its cells. -/
theorem lists_row {W : World} {q : Option Addr} {n c : Nat} {zs : List (List Int × Value)} (h : ListsAt W (.slice q n c) zs) (hn : zs.length = n) {k : Nat} (hk : k < n) :
    ∃ (b o : Nat) (x : List Int) (px : Option Addr) (cx : Nat), q = some ⟨b, o, none⟩ ∧ zs[k]? = some (x, .slice px x.length cx) ∧ W.cell? ⟨b, o + k, none⟩ = some (.slice px x.length cx) ∧ IsRow (fun x : Int => [.int .i64 x]) 1 W (.slice px x.length cx) x := by
  obtain ⟨p, b, o, cap, e, hm, hp, hc⟩ := h.row.ex
  cases e
  obtain ⟨rfl, _⟩ := hp (by omega)
  obtain ⟨⟨x, xv⟩, hx⟩ := some_of_lt (xs := zs) (k := k) (by omega)
  have hr := h.mem _ (List.mem_of_getElem? hx)
  obtain ⟨px, cx, e⟩ := hr.len
  dsimp only at e
  subst e
  have hd := hc k _ hx 0 _ rfl
  exact ⟨b, o, x, px, cx, rfl, hx, by simpa using hd, hr⟩
end Go.Proofs.YtcickafaomfbmaaGreatDoor
