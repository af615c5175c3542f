/-
  strings.ContainsAny(s, "/\x00") at every text s, also where its bytes are no valid runes.
-/
import Derived.Test.YtjolgckkoidhgaaGreatDoorBase
import Derived.Lib.MapLaws
import Derived.Lib.DecodeN
import Derived.Laws.RangeAny
import Derived.Deep.QuietTactic
import Derived.BigQuiet
import Derived.WalkSmall
namespace Go.Proofs.YtjolgckkoidhgaaGreatDoor
open Go.RowKit Go.Shelf Pa

def two : ByteArray := ⟨#[47, 0]⟩

/-- Is a byte one of the two? -/
def isBad (x : UInt8) : Bool := x == 47 || x == 0

/-- What a rune of a text is: its one byte, if that is below 128; else it is 128 at least, and its bytes are. -/
theorem decode_two (s : ByteArray) (i : Nat) (hi : i < s.size) :
    ((s[i]'hi).toNat < 128 ∧ Utf8.decode s i = ((s[i]'hi).toNat, 1)) ∨
    (128 ≤ (Utf8.decode s i).1 ∧ ((Utf8.decode s i).1 < 55296 ∨ 57344 ≤ (Utf8.decode s i).1 ∧ (Utf8.decode s i).1 ≤ 1114111) ∧ 1 ≤ (Utf8.decode s i).2 ∧ i + (Utf8.decode s i).2 ≤ s.size ∧
      ∀ j (hj : j < s.size), i ≤ j → j < i + (Utf8.decode s i).2 → 128 ≤ (s[j]'hj).toNat) := by
  have hg : ∀ k (hk : k < s.size), s.get! k = s[k]'hk := fun k hk => by
    show s.data[k]! = _
    rw [getElem!_pos s.data k hk]; rfl
  rw [Lib.decode_at]
  have e0 := hg i hi
  rcases Lib.decodeN_shape (s.size - i) (s.get! i).toNat (s.get! (i + 1)).toNat (s.get! (i + 2)).toNat (s.get! (i + 3)).toNat with h | h | h | h | h
  · left; rw [e0] at h ⊢; exact h
  · obtain ⟨h0, hn, h1, hc, e⟩ := h
    right; rw [e]
    refine ⟨hc, by omega, by omega, by show i + 2 ≤ _; omega, fun j hj h1' h2' => ?_⟩
    have : j = i ∨ j = i + 1 := by have : j < i + 2 := h2'; omega
    rcases this with rfl | rfl
    · rw [← hg _ hj]; omega
    · rw [← hg _ hj]; omega
  · obtain ⟨h0, hn, h1, h2, hc, hv, e⟩ := h
    right; rw [e]
    refine ⟨by show 128 ≤ _; omega, by show _ ∨ _; omega, by show 1 ≤ 3; omega, by show i + 3 ≤ _; omega, fun j hj h1' h2' => ?_⟩
    have : j = i ∨ j = i + 1 ∨ j = i + 2 := by have : j < i + 3 := h2'; omega
    rcases this with rfl | rfl | rfl <;> (rw [← hg _ hj]; omega)
  · obtain ⟨h0, hn, h1, h2, h3, hc, hv, e⟩ := h
    right; rw [e]
    refine ⟨by show 128 ≤ _; omega, by show _ ∨ _; omega, by show 1 ≤ 4; omega, by show i + 4 ≤ _; omega, fun j hj h1' h2' => ?_⟩
    have : j = i ∨ j = i + 1 ∨ j = i + 2 ∨ j = i + 3 := by have : j < i + 4 := h2'; omega
    rcases this with rfl | rfl | rfl | rfl <;> (rw [← hg _ hj]; omega)
  · by_cases ha : (s[i]'hi).toNat < 128
    · left
      refine ⟨ha, ?_⟩
      unfold Lib.decodeN
      rw [e0, if_pos ha]
    · right; rw [h]
      refine ⟨by show 128 ≤ 65533; omega, by show _ ∨ _; omega, by show 1 ≤ 1; omega, by show i + 1 ≤ _; omega, fun j hj h1' h2' => ?_⟩
      have : j = i := by have : j < i + 1 := h2'; omega
      subst this
      omega

/-- The bytes of a rune above 127. -/
theorem encode_high (c : Nat) (h : 128 ≤ c) (hv : c < 55296 ∨ 57344 ≤ c ∧ c ≤ 1114111) :
    (∃ a b : UInt8, Utf8.encode (c : Int) = ⟨#[a, b]⟩ ∧ 128 ≤ b.toNat) ∨ (∃ a b d : UInt8, Utf8.encode (c : Int) = ⟨#[a, b, d]⟩) ∨ ∃ a b d e : UInt8, Utf8.encode (c : Int) = ⟨#[a, b, d, e]⟩ := by
  have hval : Utf8.valid (c : Int) = true := by
    unfold Utf8.valid
    simp only [Bool.or_eq_true, Bool.and_eq_true, decide_eq_true_eq]
    omega
  unfold Utf8.encode
  simp only [hval, if_true, Int.toNat_natCast]
  rw [if_neg (by omega)]
  split
  · left
    refine ⟨_, _, rfl, ?_⟩
    rw [UInt8.toNat_ofNat']
    omega
  · split
    · right; left; exact ⟨_, _, _, rfl⟩
    · right; right; exact ⟨_, _, _, _, rfl⟩

set_option maxRecDepth 100000 in
set_option maxHeartbeats 800000 in
theorem indexRune_err (w : World) :
    Calls Tryz.prog 150 #[.string two, .int .i32 65533] w fun e w' => e = .returned (.int .i64 (-1)) ∧ BelowD w.heap.size w w' := by
  unfold two
  go_enter Tryz.func150, Tryz.ntmps150
  go_wp2_with fail
  go_loopg [5, 6] 2 (fun g _ _ wx => ∃ i : Nat, i + g = 2 ∧ wx = w.iter ⟨#[47, 0]⟩ i)
  case atStart => exact ⟨0, by omega, rfl⟩
  case round =>
    obtain ⟨i, hig, rfl⟩ := hrel
    cases gk with
    | zero =>
      obtain rfl : i = 2 := by omega
      have hnx := run_next_end (P := Tryz.prog) w ⟨#[47, 0]⟩ 2
      go_wp2
      go_ret
      exact ⟨rfl, (BelowD.refl _ _).alloc (Nat.le_refl _) _⟩
    | succ g =>
      have hi : i = 0 ∨ i = 1 := by omega
      rcases hi with rfl | rfl
      · have hnx := fun ty => run_next_ascii (P := Tryz.prog) w ⟨#[47, 0]⟩ 0 ty (by decide) (by decide)
        go_wp2
        go_roundg g
        case measure => omega
        case rel => exact ⟨1, by omega, rfl⟩
      · have hnx := fun ty => run_next_ascii (P := Tryz.prog) w ⟨#[47, 0]⟩ 1 ty (by decide) (by decide)
        go_wp2
        go_roundg g
        case measure => omega
        case rel => exact ⟨2, by omega, rfl⟩

set_option maxRecDepth 100000 in
set_option maxHeartbeats 800000 in
theorem indexRune_high (c : Nat) (w : World) (h : 128 ≤ c) (hv : c < 55296 ∨ 57344 ≤ c ∧ c ≤ 1114111) (hne : c ≠ 65533) :
    Calls Tryz.prog 150 #[.string two, .int .i32 c] w fun e w' => e = .returned (.int .i64 (-1)) ∧ BelowD w.heap.size w w' := by
  have h1 : (0 : Int) ≤ c := by omega
  have h2 : ¬ ((c : Int) < 128) := by omega
  have h3 : ((c : Int) == 65533) = false := by simp; omega
  have hvr : Calls Tryz.prog 190 #[.int .i32 c] w fun e w' => e = .returned (.bool true) ∧ w' = w := by
    have hval : Lib.validRune (c : Int) = true := by
      unfold Lib.validRune
      simp
      omega
    rw [← hval]
    exact Tryz.utf8_ValidRune c w
  have h4 := encode_high c h hv
  clear h hv hne
  unfold two
  rcases h4 with ⟨a, b, he, hb⟩ | ⟨a, b, d, he⟩ | ⟨a, b, d, e', he⟩
  · have hb1 : ((0 : Int) != (b.toNat : Int)) = true := by rw [bne_iff_ne]; omega
    have hb2 : ((0 : Int) == (b.toNat : Int)) = false := by rw [beq_eq_false_iff_ne]; omega
    have hix : Lib.indexByte ([] : List UInt8) b = -1 := rfl
    have i1 : ∀ h, (⟨#[47, 0]⟩ : ByteArray)[1]'h = 0 := fun _ => rfl
    have i2 : ∀ h, (⟨#[a, b]⟩ : ByteArray)[1]'h = b := fun _ => rfl
    have hz : ((0 : UInt8).toNat : Int) = 0 := rfl
    go_enter Tryz.func150, Tryz.ntmps150
    go_wp2_with (go_at_call 190; refine hvr.mono ?_; rintro e w' ⟨rfl, rfl⟩)
    go_step3
    go_wp2_with fail
    apply wp_loop_once
    go_wp2_with fail
    go_step3
    go_wp2_with fail
    go_region
    all_goals go_wp2_with fail
    have hb0 : BelowD w'.heap.size w' w'.drew := (BelowD.refl _ _).drew
    generalize w'.drew = W1 at hb0 ⊢
    have hcon : ∀ W : World, Calls Tryz.prog 180 #[.string ByteArray.empty, .int .u8 b.toNat] W fun e w' => e = .returned (.int .i64 (-1)) ∧ w' = W := fun W => by
      have := Tryz.strings_IndexByte ByteArray.empty (b.toNat : Int) W
      simpa [Lib.indexByte] using this
    have hw2 : IntKind.i64.wrap 2 = 2 := by decide
    go_quiet ((go_at_call 180; exact Calls.quiet_of_same (hcon _)))
    go_wp2_with fail
    simp only [Exit.noGoto_ret, Exit.inBlock]
    go_wp2
    simp only [Exit.noGoto_ret, Exit.inBlock]
    go_wp2
    go_ret
    exact ⟨rfl, belowD_drewN hb0 _⟩
  · go_enter Tryz.func150, Tryz.ntmps150
    go_wp2_with (go_at_call 190; refine hvr.mono ?_; rintro e w' ⟨rfl, rfl⟩)
    go_step3
    go_wp2_with fail
    apply wp_loop_once
    go_wp2
    rw [Exit.noGoto_ret]
    go_ret
    exact ⟨rfl, BelowD.refl _ _⟩
  · go_enter Tryz.func150, Tryz.ntmps150
    go_wp2_with (go_at_call 190; refine hvr.mono ?_; rintro e w' ⟨rfl, rfl⟩)
    go_step3
    go_wp2_with fail
    apply wp_loop_once
    go_wp2
    rw [Exit.noGoto_ret]
    go_ret
    exact ⟨rfl, BelowD.refl _ _⟩

/-- strings.IndexRune at the two bytes. -/
theorem indexRune_any (s : ByteArray) (i : Nat) (hi : i < s.size) (w : World) :
    Calls Tryz.prog 150 #[.string two, .int .i32 ((Utf8.decode s i).1 : Nat)] w fun e w' => ∃ r : Int, e = .returned (.int .i64 r) ∧ BelowD w.heap.size w w' ∧ (0 ≤ r ↔ isBad (s[i]'hi) = true) ∧ -1 ≤ r ∧ r ≤ 1 := by
  rcases decode_two s i hi with ⟨h1, e⟩ | ⟨h1, h2, h3, h4, h5⟩
  · rw [e]
    refine (Tryz.strings_IndexRune_ascii two ((s[i]'hi).toNat : Int) w (by omega) (by omega)).mono ?_
    rintro e w' ⟨rfl, rfl⟩
    refine ⟨_, rfl, BelowD.refl _ _, ?_, ?_⟩
    · have hx : ((((s[i]'hi).toNat : Int)).toNat.toUInt8) = s[i]'hi := by simp
      rw [hx]
      generalize s[i]'hi = x
      show 0 ≤ Lib.indexByte [47, 0] x ↔ _
      unfold isBad
      by_cases h47 : x = 47
      · subst h47; simp [Lib.indexByte]
      · by_cases h0 : x = 0
        · subst h0; decide
        · simp [Lib.indexByte, h47, h0, Ne.symm h47, Ne.symm h0]
    · have hx : ((((s[i]'hi).toNat : Int)).toNat.toUInt8) = s[i]'hi := by simp
      rw [hx]
      generalize s[i]'hi = x
      show -1 ≤ Lib.indexByte [47, 0] x ∧ Lib.indexByte [47, 0] x ≤ 1
      by_cases h47 : x = 47
      · subst h47; decide
      · by_cases h0 : x = 0
        · subst h0; decide
        · simp [Lib.indexByte, Ne.symm h47, Ne.symm h0]
  · have hb := h5 i hi (Nat.le_refl _) (by omega)
    have hbad : isBad (s[i]'hi) = false := by
      unfold isBad
      simp only [Bool.or_eq_false_iff, beq_eq_false_iff_ne]
      constructor <;> (intro e; rw [e] at hb; simp at hb)
    rw [hbad]
    have fin : Calls Tryz.prog 150 #[.string two, .int .i32 ((Utf8.decode s i).1 : Nat)] w fun e w' => e = .returned (.int .i64 (-1)) ∧ BelowD w.heap.size w w' := by
      by_cases he : (Utf8.decode s i).1 = 65533
      · rw [he]; exact indexRune_err w
      · exact indexRune_high _ w h1 h2 he
    exact fin.mono fun e w' ⟨a, b⟩ => ⟨-1, a, b, by simp, by omega, by omega⟩

end Go.Proofs.YtjolgckkoidhgaaGreatDoor
