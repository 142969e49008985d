/- 'pinstripelaw.Names' returns true: the nine errors' texts all differ, and the kinds and limits have their numbers. No condition: it takes no argument. -/
import Derived.Test.YtgicdhmgkepdhaaRows
import Derived.WalkKit
import Derived.ProofKit
import Derived.OpenShut
import Derived.LoopTactic
import Derived.BigQuiet
import Derived.Deep.QuietTactic
import Derived.Lib.Hide
namespace Go.Proofs.Ytgicdhmgkepdhaa.names
open Go.ChangeShapes Go.WideShapes Go.ChangeAt Go.RowKit
def tbl : List (List UInt8) :=
  [[110, 111, 32, 99, 111, 110, 102, 105, 103, 117, 114, 97, 116, 105, 111, 110],
   [97, 32, 116, 97, 115, 107, 32, 105, 115, 32, 117, 110, 100, 101, 114, 32, 119, 97, 121],
   [110, 111, 32, 111, 112, 101, 114, 97, 116, 105, 111, 110, 32, 105, 115, 32, 97, 119, 97, 105, 116, 101, 100],
   [116, 104, 101, 114, 101, 32, 105, 115, 32, 110, 111, 32, 115, 117, 99, 104, 32, 98, 108, 111, 99, 107, 44, 32, 111, 114, 32, 109, 101, 109, 98, 101, 114],
   [110, 111, 116, 32, 97, 115, 32, 109, 97, 110, 121, 32, 98, 121, 116, 101, 115, 32, 97, 115, 32, 97, 32, 115, 101, 99, 116, 111, 114, 32, 104, 97, 115],
   [116, 111, 111, 32, 102, 101, 119, 32, 111, 114, 32, 116, 111, 111, 32, 109, 97, 110, 121, 32, 98, 108, 111, 99, 107, 115, 44, 32, 111, 114, 32, 111, 110, 101, 32, 116, 119, 105, 99, 101],
   [116, 104, 101, 114, 101, 32, 105, 115, 32, 110, 111, 32, 97, 114, 114, 97, 121],
   [116, 111, 111, 32, 109, 97, 110, 121, 32, 109, 101, 109, 98, 101, 114, 115, 32, 97, 114, 101, 32, 111, 117, 116],
   [116, 104, 101, 32, 106, 111, 117, 114, 110, 97, 108, 32, 105, 115, 32, 108, 111, 115, 116]]
def nm (n : Nat) : ByteArray := ⟨(tbl.getD n []).toArray⟩
theorem nm_ne : ∀ k : Nat, k < 9 → ∀ m : Nat, m < k → ((nm k).toList == (nm m).toList) = false := by decide +kernel
theorem nm_cells (w : World) (k : Nat) (hk : k < 9) :
    (w.alloc (.cells #[.string (nm 0), .string (nm 1), .string (nm 2), .string (nm 3), .string (nm 4), .string (nm 5), .string (nm 6), .string (nm 7), .string (nm 8)] 9)).cell? ⟨w.heap.size, k, none⟩ = some (.string (nm k)) := by
  rw [cell_of_row _ _ _ _ _ _ (heap_alloc_new w _)]
  match k, hk with
  | 0, _ => rfl
  | 1, _ => rfl
  | 2, _ => rfl
  | 3, _ => rfl
  | 4, _ => rfl
  | 5, _ => rfl
  | 6, _ => rfl
  | 7, _ => rfl
  | 8, _ => rfl
theorem wp_at {P : Program} {c : Code} {Q : Exit → Act → World → Prop} {a : Act} {w1 w2 : World} (h : w1 = w2) (H : Code.wp P c Q a w2) : Code.wp P c Q a w1 := h ▸ H
set_option maxHeartbeats 400000 in
theorem walk  (w : World) :
    Calls Try.prog 3 #[] w fun e w' => e = .returned (.bool true) ∧ Grown w w' := by
  have hcell := nm_cells w
  have hgrow : Grown w (w.alloc (.cells #[.string (nm 0), .string (nm 1), .string (nm 2), .string (nm 3), .string (nm 4), .string (nm 5), .string (nm 6), .string (nm 7), .string (nm 8)] 9)) := by repeat (first | exact Grown.refl _ | apply Grown.drew | apply Grown.alloc)
  generalize hW : w.alloc (.cells #[.string (nm 0), .string (nm 1), .string (nm 2), .string (nm 3), .string (nm 4), .string (nm 5), .string (nm 6), .string (nm 7), .string (nm 8)] 9) = W at hcell hgrow
  have HW := Lib.hid hW
  have HC := Lib.hid hcell
  clear hW hcell
  go_enter Try.func3, Try.ntmps3
  go_wp2
  refine wp_at HW.out ?_
  go_loopw [2] (fun i wr => ∃ k : Nat, k ≤ 9 ∧ i = .int .i64 k ∧ ∃ n, wr = W.drewN n) (fun i _ => 9 - (intOf i).toNat)
  case atStart => exact ⟨0, Nat.zero_le _, rfl, 0, rfl⟩
  case round =>
    obtain ⟨k, hk, rfl, n, rfl⟩ := hrel
    by_cases hlt : k < 9
    · go_wp2
      go_loopw [3] (fun j wr => ∃ m : Nat, m ≤ k ∧ j = .int .i64 m ∧ ∃ n, wr = W.drewN n) (fun j _ => k - (intOf j).toNat)
      case atStart => exact ⟨0, Nat.zero_le _, rfl, n, rfl⟩
      case round =>
        obtain ⟨m, hm, rfl, n1, rfl⟩ := hrel
        by_cases hml : m < k
        · go_wp2
          have hk0 : (0 : Int) ≤ k := by omega
          have hk9 : (k : Int) < 9 := by omega
          have hm0 : (0 : Int) ≤ m := by omega
          have hm9 : (m : Int) < 9 := by omega
          have c1 := HC.out k hlt
          have c2 := HC.out m (by omega)
          have e1 := nm_ne k hlt m hml
          go_quiet (fail)
          go_wp2
          exact ⟨⟨m + 1, by omega, by go_num, n1 + nq, rfl⟩, by simp [intOf]; omega⟩
        · go_wp2
          go_roundw
          case rel => exact ⟨k + 1, by omega, by go_num, n1, rfl⟩
          case measure => simp [intOf]; omega
    · go_wp2
      go_ret
      exact ⟨rfl, by repeat (first | exact hgrow | apply Grown.drew | apply Grown.drewN)⟩
theorem own : ownKnob Try.prog.godebug = none := by kernel_rfl
set_option maxRecDepth 100000 in
theorem lifted (os : Os) (started : os.Started) (H : Type) (enc : TypeId × Value → H) :
    ReturnsInHanded {} Try.checked os 3 .any (Rows.namesSpec.pre6 enc Try.prog Try.f3 Rows.namesRow.domain false) (Rows.namesSpec.post enc Try.prog Try.f3 false true false false) := by
  refine returnsInHanded_of_change (C := Try.checked) own started (by kernel_rfl) Try.func3
    (ChangeSpec.witness6 (enc := enc) (C := Try.checked) false ⟨#[], #[], []⟩ 8 (by kernel_rfl) (by kernel_rfl) (by kernel_rfl) (by kernel_rfl)) ?_
  intro W base args ds gs before hval0 hW hcnd _
  have hval : ∀ (j : Nat) t v, Try.f3.params[j]? = some t → args[j]? = some v → Value.okWide Try.prog W .any base t v := hval0
  have hW' := hW
  obtain ⟨p, q, hA0, hV, rfl, hfz, hnd⟩ := hW
  have hA : DataW.TrodAll enc Try.prog W 0 (fun _ => true) true Try.f3.params.toList args.toList ds p := hA0
  rw [Try.params3] at hA hval
  obtain ⟨rfl, rfl, rfl⟩ := trodAll_none hA
  obtain ⟨rfl, rfl⟩ := trodVars_none hV
  clear hA0 hval0
  simp only [List.append_nil] at hW'
  refine (walk  W).mono fun e W' ⟨he, hg⟩ => ?_
  subst he
  exact ⟨_, rfl, post_of_same (pa := []) (pv := []) hW' (fun _ _ _ => (trodAll_cons_mk (shut_bool Try.underlying4 _) trodAll_mk0)) (fun sp _ => rfl) (fun _ _ => rfl) rfl
    (hg.frame _) hg.2.1 (ok_one (by kernel_rfl) rfl (okWide_bool_mk Try.underlying4 _))⟩

theorem over : Rows.namesRow.holds Try.pinned (OpenSpec.ofChange Rows.namesSpec) :=
  OpenClaim.holds_of_wide 3 Try.f3 rfl rfl rfl rfl rfl rfl rfl ⟨rfl, rfl, rfl, rfl, rfl⟩ rfl rfl rfl rfl rfl (by kernel_rfl) Try.func3 (by kernel_rfl)
    (of_decide_eq_true (by kernel_rfl)) (by unfold Func.isWrapper; first | (rw [if_pos (by decide +kernel)]; kernel_rfl) | (rw [if_neg (by decide +kernel)]; exact ⟨rfl, rfl⟩))
    (fun os started H enc _ => lifted os started H enc)

/-- The given statement. -/
theorem proved : Rows.NamesSaid :=
  over
#print axioms proved
end Go.Proofs.Ytgicdhmgkepdhaa.names
