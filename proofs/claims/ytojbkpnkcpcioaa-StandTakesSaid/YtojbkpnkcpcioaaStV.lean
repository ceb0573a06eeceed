/- How many bits a set has; the least of sets. -/
import Derived.Test.YtojbkpnkcpcioaaStU
set_option linter.all false
namespace Go.Proofs.Ytojbkpnkcpcioaa
open Go.RowKit Go.Sh Go.Sh.Stand Go.Shelf

def pop (n : Nat) : Nat := (n.testBit 0).toNat + (n.testBit 1).toNat + (n.testBit 2).toNat + (n.testBit 3).toNat

set_option maxHeartbeats 1000000 in
theorem ones64_any (n : Nat) (w : World) (hn : n < 16) : Calls Try.prog 88 #[.int .u64 n] w fun e w' => e = .returned (.int .i64 (pop n)) ∧ w = w' := by
  go_enter Try.func88, Try.ntmps88
  go_wp2
  go_ret
  refine ⟨retI ?_, rfl⟩
  revert n
  decide +kernel

theorem pop_le (n : Nat) : pop n ≤ 4 := by
  unfold pop
  have := fun b : Bool => (show b.toNat ≤ 1 from by cases b <;> decide)
  have h0 := this (n.testBit 0); have h1 := this (n.testBit 1); have h2 := this (n.testBit 2); have h3 := this (n.testBit 3)
  omega

set_option maxHeartbeats 1000000 in
theorem ones_any (n : Nat) (w : World) (hn : n < 16) : Calls Try.prog 71 #[.int .u64 n] w fun e w' => e = .returned (.int .i64 (pop n)) ∧ w = w' := by
  have HO := Lib.hid (ones64_any n w hn)
  go_enter Try.func71, Try.ntmps71
  go_wp2_with (go_at_call 88; refine HO.out.mono ?_; rintro e w' ⟨rfl, rfl⟩)
  go_ret
  exact ⟨rfl, rfl⟩

set_option maxHeartbeats 1000000 in
theorem cmp_any (x y : Nat) (w : World) (hx : x < 16) (hy : y < 16) : Calls Try.prog 70 #[.int .u64 x, .int .u64 y] w fun e w' => e = .returned (.int .i64 ((pop x : Int) - pop y)) ∧ w = w' := by
  have HX := Lib.hid (ones_any x w hx)
  have HY := Lib.hid (ones_any y w hy)
  have px := pop_le x
  have py := pop_le y
  go_enter Try.func70, Try.ntmps70
  go_wp2_with (first
    | (go_at_call 71; refine HX.out.mono ?_; clear HX; rintro e w' ⟨rfl, rfl⟩)
    | (go_at_call 71; refine HY.out.mono ?_; rintro e w' ⟨rfl, rfl⟩))
  go_ret
  exact ⟨rfl, rfl⟩

def encU (n : Nat) : List Value := [.int .u64 n]
def Uints := RowsAt encU 1
/-- The first of those with the fewest bits. -/
def least (m : Nat) (l : List Nat) : Nat := l.foldl (fun m x => if pop x < pop m then x else m) m
theorem least_mem : ∀ (l : List Nat) (m : Nat), least m l = m ∨ least m l ∈ l
  | [], m => .inl rfl
  | x :: l, m => by
    unfold least
    rw [List.foldl_cons]
    have := least_mem l (if pop x < pop m then x else m)
    unfold least at this
    rcases this with h | h
    · rw [h]; split
      · exact .inr (List.mem_cons_self ..)
      · exact .inl rfl
    · exact .inr (List.mem_cons_of_mem _ h)

set_option maxHeartbeats 1000000 in
theorem minFunc_any (v : Value) (l : List Nat) (w : World) (h : Uints w w.heap.size v l) (hl : l ≠ []) (h16 : ∀ x ∈ l, x < 16) :
    Calls Try.prog 69 #[v, .func (.func 70) #[] #[]] w fun e w' => e = .returned (.int .u64 (least (l.headD 0) l.tail)) ∧ w = w' := by
  obtain ⟨ao, cap, rfl, hlen, hrow⟩ := h
  obtain ⟨b, off, rfl, hbl, hx⟩ := hrow hl
  have hpos : 0 < l.length := List.length_pos_iff.2 hl
  have c0 : w.cell? ⟨b, off, none⟩ = some (.int .u64 (l[0] : Nat)) := by simpa using hx 0 l[0] (by simp [hpos]) 0 _ rfl
  have HX := Lib.hid hx
  have H16 := Lib.hid h16
  have hh : l.headD 0 = l[0] := by cases l with | nil => exact absurd rfl hl | cons a r => rfl
  have ht : l.tail = l.drop 1 := by cases l with | nil => exact absurd rfl hl | cons a r => rfl
  rw [hh, ht]
  obtain ⟨target, htg⟩ : ∃ x, least l[0] (l.drop 1) = x := ⟨_, rfl⟩
  rw [htg]
  have HT := Lib.hid htg
  clear hx h16 htg hh ht hrow
  have cl0 : ¬ ((l.length : Nat) : Int) < 1 := by omega
  go_enter Try.func69, Try.ntmps69
  go_wp2
  go_loopw [5, 6] (fun m i wr => ∃ (j mm : Nat), 1 ≤ j ∧ j ≤ l.length ∧ i = .int .i64 j ∧ m = .int .u64 mm ∧ mm < 16 ∧ wr = w ∧ Hid (least mm (l.drop j) = target)) (fun _ i _ => l.length - (intOf i).toNat)
  case atStart => exact ⟨1, l[0], by omega, by omega, rfl, rfl, H16.out _ (List.getElem_mem _), rfl, HT⟩
  case round =>
    obtain ⟨j, mm, hj1, hj, rfl, rfl, hm16, rfl, HM⟩ := hrel
    by_cases hlt : j < l.length
    · have cl : ((j : Nat) : Int) < ((l.length : Nat) : Int) := by omega
      obtain ⟨x, hxe⟩ : ∃ x, l[j] = x := ⟨_, rfl⟩
      have cj : wr.cell? ⟨b, off + j, none⟩ = some (.int .u64 (x : Nat)) := by simpa [hxe] using HX.out j l[j] (by simp [hlt]) 0 _ rfl
      have hx16 : x < 16 := by rw [← hxe]; exact H16.out _ (List.getElem_mem _)
      have HC := Lib.hid (cmp_any x mm wr hx16 hm16)
      have hst : least mm (l.drop j) = least (if pop x < pop mm then x else mm) (l.drop (j + 1)) := by
        rw [List.drop_eq_getElem_cons hlt, hxe]; rfl
      have HST := Lib.hid hst
      clear hst hxe
      by_cases hp : pop x < pop mm
      · have hp' : (pop x : Int) - pop mm < 0 := by omega
        have HN : Hid (least x (l.drop (j + 1)) = target) := Lib.hid (by rw [← HM.out, HST.out, if_pos hp])
        go_wp2_with (go_at_call 70; refine HC.out.mono ?_; rintro e w' ⟨rfl, rfl⟩)
        go_roundw
        case rel => exact ⟨j + 1, x, by omega, by omega, by go_num, rfl, hx16, trivial, HN⟩
        case measure => simp [intOf]; omega
      · have hp' : ¬ ((pop x : Int) - pop mm < 0) := by omega
        have HN : Hid (least mm (l.drop (j + 1)) = target) := Lib.hid (by rw [← HM.out, HST.out, if_neg hp])
        go_wp2_with (go_at_call 70; refine HC.out.mono ?_; rintro e w' ⟨rfl, rfl⟩)
        go_roundw
        case rel => exact ⟨j + 1, mm, by omega, by omega, by go_num, rfl, hm16, trivial, HN⟩
        case measure => simp [intOf]; omega
    · have cl : ¬ ((j : Nat) : Int) < ((l.length : Nat) : Int) := by omega
      have HN : Hid (mm = target) := Lib.hid (by rw [← HM.out, List.drop_eq_nil_of_le (by omega)]; rfl)
      go_wp2
      go_ret
      exact ⟨by rw [HN.out]; rfl, rfl⟩
end Go.Proofs.Ytojbkpnkcpcioaa
