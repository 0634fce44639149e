/-
  Walks of the reference: the members of a set; numbers within bounds; whether pieces are the best.
-/
import Derived.Test.YtomcenfikdmmkaaGreatDoorJe
import Derived.Test.YtomcenfikdmmkaaGreatDoorRx
namespace Go.Proofs.YtomcenfikdmmkaaGreatDoor
open Go.RowKit Kr
set_option linter.unusedSimpArgs false

def natCs (l : List Nat) : List Value := l.flatMap fun x : Nat => [.int .i64 (x : Int)]
theorem natCs_snoc (l : List Nat) (x : Nat) : natCs (l ++ [x]) = natCs l ++ [.int .i64 (x : Int)] := by simp [natCs]
theorem elem_intN : ElemOf Tryz.prog 26 3 (.int .i64 0) 1 8 := ⟨Tryz.underlying26, by kernel_rfl, rfl, by decide, by decide⟩
theorem row_nats {w : World} {base : Nat} {e : TypeId} {v : Value} {l : List Nat} (h : w.ownsRow base e 1 v l.length (natCs l)) : IsRow (fun x : Nat => [.int .i64 (x : Int)]) 1 w v l := IsRow.of_owns h (fun _ _ => rfl)

theorem bit_at : ∀ s : Fin 256, ∀ k : Fin 8, bits .and .i64 ((s.1 : Int) / 2 ^ k.1) 1 = if s.1.testBit k.1 then 1 else 0 := by decide +kernel

set_option maxRecDepth 4000 in
set_option maxHeartbeats 1000000 in
theorem r04_members_any (set n : Nat) (hs : set < 256) (hn : n ≤ 8) (w : World) :
    Calls Tryz.prog 45 #[.int .i64 (set : Int), .int .i64 (n : Int)] w fun e w' => ∃ v, e = .returned v ∧ IsRow (fun x : Nat => [.int .i64 (x : Int)]) 1 w' v (membersN set n) ∧ w.Exts w' := by
  go_enter Tryz.func45, Tryz.ntmps45
  go_wp2_with fail
  go_loopw [5, 6] (fun out i wr => ∃ k : Nat, k ≤ n ∧ i = .int .i64 k ∧ Hid (wr.ownsRow w.heap.size 3 1 out (membersN set k).length (natCs (membersN set k))) ∧ w.Exts wr) (fun _ i _ => n - (intOf i).toNat)
  case atStart => exact ⟨0, Nat.zero_le _, rfl, Lib.hid (World.ownsRow_nil _ _ _ _), (by repeat' (first | with_reducible exact World.Exts.refl _ | with_reducible refine World.Exts.alloc ?_ _ | with_reducible refine World.Exts.drew ?_ | with_reducible refine World.Exts.drewN ?_ _ | with_reducible refine World.Exts.ext ?_ _ | with_reducible refine World.Exts.setCell ?_ ?_ _ | (simp; done) | exact World.size_ext_le _ _ | (simp; omega)))⟩
  case round =>
    obtain ⟨k, hk, rfl, HO, hE⟩ := hrel
    obtain ⟨X, rfl⟩ := hE
    by_cases hlt : k < n
    · have hlen := membersN_len set k
      have hnx := membersN_succ set k
      generalize membersN set k = L at hlen hnx HO
      have hbit := bit_at ⟨set, hs⟩ ⟨k, by omega⟩
      dsimp only at hbit
      cases hb : set.testBit k
      · rw [hb] at hnx hbit
        simp only [Bool.false_eq_true, if_false] at hbit hnx
        rw [List.append_nil] at hnx
        have HNX := Lib.hid hnx
        clear hnx
        clear hb
        go_wp2_with fail
        go_roundw
        case rel => exact ⟨k + 1, by omega, by go_num, Lib.hid (by rw [HNX.out]; exact HO.out), (by repeat' (first | with_reducible exact World.Exts.refl _ | with_reducible refine World.Exts.alloc ?_ _ | with_reducible refine World.Exts.drew ?_ | with_reducible refine World.Exts.drewN ?_ _ | with_reducible refine World.Exts.ext ?_ _ | with_reducible refine World.Exts.setCell ?_ ?_ _ | (simp; done) | exact World.size_ext_le _ _ | (simp; omega)))⟩
        case measure => simp [intOf]; omega
      · rw [hb] at hnx hbit
        simp only [if_true] at hbit hnx
        have HNX := Lib.hid hnx
        clear hnx
        clear hb
        go_wp2_with (at_builtin; refine wpList_append1W (.tmp 17) (.tmp 19) elem_intN rfl rfl rfl (ownsRow_exts HO.out (by repeat' (first | with_reducible exact World.Exts.refl _ | with_reducible refine World.Exts.alloc ?_ _ | with_reducible refine World.Exts.drew ?_ | with_reducible refine World.Exts.drewN ?_ _ | with_reducible refine World.Exts.ext ?_ _ | with_reducible refine World.Exts.setCell ?_ ?_ _ | (simp; done) | exact World.size_ext_le _ _ | (simp; omega)))) [.int .i64 (k : Int)] _ (by simp) rfl rfl ?h1 ?h2 ?h4 ?h3 ?_)
        case h1 => intro u hu; simp at hu; subst hu; rfl
        case h2 => omega
        case h4 => decide
        case h3 => exact World.Exts.size (by repeat' (first | with_reducible exact World.Exts.refl _ | with_reducible refine World.Exts.alloc ?_ _ | with_reducible refine World.Exts.drew ?_ | with_reducible refine World.Exts.drewN ?_ _ | with_reducible refine World.Exts.ext ?_ _ | with_reducible refine World.Exts.setCell ?_ ?_ _ | (simp; done) | exact World.size_ext_le _ _ | (simp; omega)))
        intro v' w' hown' happ
        have hE := happ.exts w (by repeat' (first | with_reducible exact World.Exts.refl _ | with_reducible refine World.Exts.alloc ?_ _ | with_reducible refine World.Exts.drew ?_ | with_reducible refine World.Exts.drewN ?_ _ | with_reducible refine World.Exts.ext ?_ _ | with_reducible refine World.Exts.setCell ?_ ?_ _ | (simp; done) | exact World.size_ext_le _ _ | (simp; omega))) (Nat.le_refl _)
        have HO3 := Lib.hid hown'
        clear hown'
        have HE := Lib.hid hE
        clear hE
        clear happ
        go_wp2_with fail
        go_roundw
        case rel => exact ⟨k + 1, by omega, by go_num, Lib.hid (by rw [HNX.out, natCs_snoc, List.length_append]; exact HO3.out), HE.out⟩
        case measure => simp [intOf]; omega
    · have hkn : k = n := by omega
      have hO := HO.out
      rw [hkn] at hO
      have hrw := row_nats hO
      obtain ⟨q, cp, rfl⟩ := hrw.len
      have HRW := Lib.hid hrw
      clear hrw
      clear hO HO hkn
      go_wp2_with fail
      go_ret
      exact ⟨_, rfl, HRW.out.mono (by repeat' (first | with_reducible exact World.Exts.refl _ | with_reducible refine World.Exts.alloc ?_ _ | with_reducible refine World.Exts.drew ?_ | with_reducible refine World.Exts.drewN ?_ _ | with_reducible refine World.Exts.ext ?_ _ | with_reducible refine World.Exts.setCell ?_ ?_ _ | (simp; done) | exact World.size_ext_le _ _ | (simp; omega))), (by repeat' (first | with_reducible exact World.Exts.refl _ | with_reducible refine World.Exts.alloc ?_ _ | with_reducible refine World.Exts.drew ?_ | with_reducible refine World.Exts.drewN ?_ _ | with_reducible refine World.Exts.ext ?_ _ | with_reducible refine World.Exts.setCell ?_ ?_ _ | (simp; done) | exact World.size_ext_le _ _ | (simp; omega)))⟩
end Go.Proofs.YtomcenfikdmmkaaGreatDoor
