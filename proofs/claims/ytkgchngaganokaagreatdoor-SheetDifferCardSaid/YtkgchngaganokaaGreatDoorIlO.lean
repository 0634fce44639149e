/-
  Several texts in one: see the heads of its parts.
-/
import Derived.Test.YtkgchngaganokaaGreatDoorIgK
import Derived.Test.YtkgchngaganokaaGreatDoorJb
import Derived.Test.YtkgchngaganokaaGreatDoorCallsK
import Derived.Test.YtkgchngaganokaaGreatDoorSort
import Derived.Test.YtkgchngaganokaaGreatDoorSoT
import Derived.Test.YtkgchngaganokaaGreatDoorJdk
import Derived.Test.YtkgchngaganokaaGreatDoorIsT

/-
  Walks of package ice: how thick ice has to be in an hour.
-/
namespace Go.Proofs.YtkgchngaganokaaGreatDoor
open Go.RowKit Kr
set_option linter.unusedSimpArgs false
set_option linter.unusedVariables false

/-- How thick ice has to be in an hour. -/
def asksR (c : Kr.Cover) (h : Kr.Hour) : Int := if 0 < h.runs then max (max 0 c.base) c.limit else max 0 c.base
def askTo (c : Kr.Cover) (h : Kr.Hour) : Nat → Int
  | 0 => 0
  | 1 => max 0 c.base
  | _ => asksR c h
theorem askTo_one (c : Kr.Cover) (h : Kr.Hour) : askTo c h 1 = max 0 c.base := rfl
theorem askTo_yes {c : Kr.Cover} {h : Kr.Hour} (hr : 0 < h.runs) : askTo c h 2 = max (askTo c h 1) c.limit := by unfold askTo asksR; exact if_pos hr
theorem askTo_no {c : Kr.Cover} {h : Kr.Hour} (hr : h.runs ≤ 0) : askTo c h 2 = askTo c h 1 := by unfold askTo asksR; exact if_neg (by omega)
/-- What the region of one limit leaves. -/
def AskOne (rb : Nat) (m a : Int) (c : Nat) (W : World) (v : Value) : Prop :=
  (c = 4 → v = .pointer (some ⟨rb, 0, none⟩)) ∧ (c = 7 → v = .int .i64 a) ∧ (c = 8 → IsRow (fun x : Int => [.int .i64 x]) 1 W v [a]) ∧ (c = 9 → v = .int .i64 (max m a))
theorem AskOne.mono {rb : Nat} {m a : Int} {c : Nat} {W W' : World} {v : Value} (h : AskOne rb m a c W v) (hE : W.Exts W') : AskOne rb m a c W' v :=
  ⟨h.1, h.2.1, fun e => (h.2.2.1 e).mono hE, h.2.2.2⟩

end Go.Proofs.YtkgchngaganokaaGreatDoor

/-
  Walks: how lists of numbers compare, with nothing made; what is too thin, sorted: the library's slices.SortFunc over pairs.
-/
namespace Go.Proofs.YtkgchngaganokaaGreatDoor
open Go.RowKit Go.Shelf Kr
set_option linter.unusedSimpArgs false
set_option linter.unusedVariables false

theorem cmp_isNaN_same (x : Int) (w : World) : Calls Tryz.prog 107 #[.int .i64 x] w fun e w' => e = .returned (.bool false) ∧ w' = w := by
  go_enter Tryz.func107, Tryz.ntmps107
  go_wp2_with fail
  go_ret
  exact ⟨by simp, rfl⟩
theorem cmp_Compare_same (x y : Nat) (w : World) : Calls Tryz.prog 91 #[.int .i64 (x : Int), .int .i64 (y : Int)] w fun e w' => e = .returned (.int .i64 (if x = y then 0 else if x < y then -1 else 1)) ∧ w' = w := by
  rcases Nat.lt_trichotomy x y with h | h | h
  · have hv : (if x = y then (0 : Int) else if x < y then -1 else 1) = -1 := by rw [if_neg (by omega), if_pos h]
    rw [hv]
    clear hv
    go_enter Tryz.func91, Tryz.ntmps91
    go_wp2_with (go_at_call 107; refine (cmp_isNaN_same _ _).mono ?_; rintro e w' ⟨rfl, rfl⟩)
    go_ret
    exact ⟨rfl, rfl⟩
  · subst h
    rw [if_pos rfl]
    go_enter Tryz.func91, Tryz.ntmps91
    go_wp2_with (go_at_call 107; refine (cmp_isNaN_same _ _).mono ?_; rintro e w' ⟨rfl, rfl⟩)
    go_ret
    exact ⟨rfl, rfl⟩
  · have hv : (if x = y then (0 : Int) else if x < y then -1 else 1) = 1 := by rw [if_neg (by omega), if_neg (by omega)]
    rw [hv]
    clear hv
    go_enter Tryz.func91, Tryz.ntmps91
    go_wp2_with (go_at_call 107; refine (cmp_isNaN_same _ _).mono ?_; rintro e w' ⟨rfl, rfl⟩)
    go_ret
    exact ⟨rfl, rfl⟩

set_option maxRecDepth 4000 in
set_option maxHeartbeats 1000000 in
theorem Compare_int_same (a b : List Nat) (va vb : Value) (w : World) (ha : IsRow (fun x : Nat => [.int .i64 (x : Int)]) 1 w va a) (hb : IsRow (fun x : Nat => [.int .i64 (x : Int)]) 1 w vb b) :
    Calls Tryz.prog 77 #[va, vb] w fun e w' => e = .returned (.int .i64 (compareN a b)) ∧ w' = w := by
  obtain ⟨p1, b1, o1, cap1, rfl, hm1, hp1, hc1⟩ := ha.ex
  obtain ⟨p2, b2, o2, cap2, rfl, hm2, hp2, hc2⟩ := hb.ex
  have HP1 := Lib.hid hp1
  clear hp1
  have HC1 := Lib.hid hc1
  clear hc1
  have HP2 := Lib.hid hp2
  clear hp2
  have HC2 := Lib.hid hc2
  clear hc2
  clear ha hb
  go_enter Tryz.func77, Tryz.ntmps77
  go_wp2_with fail
  go_loopw [11] (fun i wr => ∃ k : Nat, k ≤ a.length ∧ i = .int .i64 k ∧ Hid (compareN a b = compareN (a.drop k) (b.drop k)) ∧ wr = w) (fun i _ => a.length - (intOf i).toNat)
  case atStart => exact ⟨0, Nat.zero_le _, rfl, Lib.hid rfl, rfl⟩
  case round =>
    obtain ⟨k, hk, rfl, HK, rfl⟩ := hrel
    by_cases hlt : k < a.length
    · obtain ⟨rfl, hl1⟩ := HP1.out (by omega)
      obtain ⟨x, hx⟩ := some_of_lt hlt
      have hcs := HC1.out k x hx
      have c0 := hcs 0 _ rfl
      simp only [Nat.mul_one, Nat.add_zero] at c0
      rcases Nat.lt_or_ge k b.length with h2 | h2
      · obtain ⟨rfl, hl2⟩ := HP2.out (by omega)
        obtain ⟨y, hy⟩ := some_of_lt h2
        have hds := HC2.out k y hy 0 _ rfl
        simp only [Nat.mul_one, Nat.add_zero] at hds
        have hst := compareN_step hx hy
        rcases Nat.lt_trichotomy x y with h | h | h
        · have hfin : compareN a b = -1 := by rw [HK.out, hst, if_neg (by omega), if_pos h]
          have hv : (if x = y then (0 : Int) else if x < y then -1 else 1) = -1 := by rw [if_neg (by omega), if_pos h]
          have HF := Lib.hid hfin
          clear hfin
          have HV := Lib.hid hv
          clear hv
          clear hx hy hcs hst
          go_wp2_with (go_at_call 91; refine (cmp_Compare_same x y _).mono ?_; rw [HV.out]; rintro e w' ⟨rfl, rfl⟩)
          go_ret
          exact ⟨by rw [HF.out]; rfl, rfl⟩
        · have hnx : compareN a b = compareN (a.drop (k + 1)) (b.drop (k + 1)) := by rw [HK.out, hst, if_pos h]
          have hv : (if x = y then (0 : Int) else if x < y then -1 else 1) = 0 := by rw [if_pos h]
          have HN := Lib.hid hnx
          clear hnx
          have HV := Lib.hid hv
          clear hv
          clear hx hy hcs hst h
          go_wp2_with (go_at_call 91; refine (cmp_Compare_same x y _).mono ?_; rw [HV.out]; rintro e w' ⟨rfl, rfl⟩)
          go_roundw
          case rel => exact ⟨k + 1, by omega, by go_num, Lib.hid HN.out, by first | rfl | trivial⟩
          case measure => simp [intOf]; omega
        · have hfin : compareN a b = 1 := by rw [HK.out, hst, if_neg (by omega), if_neg (by omega)]
          have hv : (if x = y then (0 : Int) else if x < y then -1 else 1) = 1 := by rw [if_neg (by omega), if_neg (by omega)]
          have HF := Lib.hid hfin
          clear hfin
          have HV := Lib.hid hv
          clear hv
          clear hx hy hcs hst
          go_wp2_with (go_at_call 91; refine (cmp_Compare_same x y _).mono ?_; rw [HV.out]; rintro e w' ⟨rfl, rfl⟩)
          go_ret
          exact ⟨by rw [HF.out]; rfl, rfl⟩
      · have hfin : compareN a b = 1 := by rw [HK.out]; exact compareN_left hlt h2
        have HF := Lib.hid hfin
        clear hfin
        clear hx hcs
        go_wp2_with fail
        go_ret
        exact ⟨by rw [HF.out]; rfl, rfl⟩
    · have hfin : compareN a b = if k < b.length then -1 else 0 := by rw [HK.out]; exact compareN_end (by omega)
      rcases Nat.lt_or_ge k b.length with h2 | h2
      · rw [if_pos h2] at hfin
        have HF := Lib.hid hfin
        clear hfin
        go_wp2_with fail
        go_ret
        exact ⟨by rw [HF.out]; rfl, rfl⟩
      · rw [if_neg (by omega)] at hfin
        have HF := Lib.hid hfin
        clear hfin
        go_wp2_with fail
        go_ret
        exact ⟨by rw [HF.out]; rfl, rfl⟩


end Go.Proofs.YtkgchngaganokaaGreatDoor

/-
  Walks of package ice: what is too thin: a range over the iterator in a loop.
-/
namespace Go
open Go.RowKit
/-- A function that held ranges over functions leaves: their marks go. -/
theorem leaves_marks {P : Program} {F : Fence} {n : Nat} {fn : Func} {tmps : Array Value} {R : Ending → World → Prop} : ∀ (Ds : List Nat) (w : World), Ds.Nodup → (∀ D ∈ Ds, w.heap[D]? = some (.deferred (some []))) →
    (∀ w', (∀ A : World, A.Exts w → (∀ D ∈ Ds, A.heap.size ≤ D) → A.Exts w') → ∃ v, (results fn tmps).run P w' = .ok v w' ∧ R (.returned v) w') → LeavesInM F n P fn tmps R (Ds.map fun D => { target := .collected D, args := #[] }) .returning w
  | [], w, _, _, H => H w fun A hA _ => hA
  | D :: Ds, w, hn, hm, H => by
    have hD := hm D (List.mem_cons_self ..)
    rw [List.nodup_cons] at hn
    refine ⟨by simp, .inl ⟨D, w.putObj D (.deferred none), rfl, run_takeDeferred hD, leaves_marks Ds _ hn.2 (fun D' h => ?_) fun w' hw' => H w' fun A hA hB => hw' A ?_ fun D' h => hB D' (List.mem_cons_of_mem _ h)⟩⟩
    · rw [World.putObj_heap_other (fun e => hn.1 (by subst e; exact h))]
      exact hm D' (List.mem_cons_of_mem _ h)
    · have hb := hA.below
      have h1 := hB D (List.mem_cons_self ..)
      exact .of ⟨hb.os, hb.tape, hb.output, by simpa using hb.size, fun k hk => (World.putObj_heap_other (by omega)).trans (hb.block k hk)⟩
end Go
namespace Go.Proofs.YtkgchngaganokaaGreatDoor
open Go.RowKit Go.Shelf Kr
set_option linter.unusedSimpArgs false
set_option linter.unusedVariables false
attribute [local go_sem] Oper.semAt_some

theorem ownsRow_turned {W W' : World} {base size n : Nat} {e : TypeId} {v : Value} {xs : List Value} {row : Option Nat} (h : W.ownsRow base e size v n xs) (hg : W.grownBy W' row) (hr : ∀ r, row = some r → ∃ o : Obj, W.heap[r]? = some o ∧ ∀ cs fr, o ≠ .cells cs e fr) : W'.ownsRow base e size v n xs := by
  refine ⟨h.1, ?_⟩
  rcases h.2 with h1 | ⟨g, cap, cur, hv, hb, hc, h2⟩
  · exact .inl h1
  · refine .inr ⟨g, cap, cur, hv, hb, (hg.block g (Array.getElem?_eq_some_iff.1 hc).1 (fun e => ?_)).trans hc, h2⟩
    obtain ⟨o, h3, h4⟩ := hr g e.symm
    rw [hc] at h3
    cases h3
    exact h4 _ _ rfl
theorem ownBlock_at {W : World} {base size n : Nat} {e : TypeId} {v : Value} {xs : List Value} (h : W.ownsRow base e size v n xs) {b : Nat} (hb : v.ownBlock = some b) : base ≤ b ∧ ∃ cs, W.heap[b]? = some (.cells cs e (0, 0)) := by
  rcases h.2 with ⟨rfl, _⟩ | ⟨g, cap, cur, rfl, h1, hc, _⟩
  · cases hb
  · cases hb
    exact ⟨h1, cur, hc⟩
theorem laysAs_grown {B f : Nat} {W W' : World} {row : Option Nat} {o : Obj} (h : LaysAs W f o) (hf : f < B) (hg : W.grownBy W' row) (hr : ∀ r, row = some r → B ≤ r) : LaysAs W' f o := block_grown h hf hg hr
theorem block_turned {base k : Nat} {W W' : World} {v : Value} {t : TypeId} {o : Obj} (h : LaysAs W k o) (hob : ∀ b, v.ownBlock = some b → base ≤ b ∧ ∃ cs, W.heap[b]? = some (.cells cs t (0, 0))) (hg : W.grownBy W' v.ownBlock) (ho : ∀ cs fr, o ≠ .cells cs t fr) : LaysAs W' k o := by
  unfold LaysAs at *
  refine (hg.block k (Array.getElem?_eq_some_iff.1 h).1 fun e => ?_).trans h
  obtain ⟨_, cs, hc⟩ := hob k e.symm
  rw [h] at hc
  cases hc
  exact ho _ _ rfl
def markOf (D : Nat) : Deferred := { target := .collected D, args := #[] }

end Go.Proofs.YtkgchngaganokaaGreatDoor
