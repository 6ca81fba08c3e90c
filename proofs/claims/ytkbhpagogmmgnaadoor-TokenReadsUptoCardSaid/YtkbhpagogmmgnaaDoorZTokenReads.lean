/- Last part: what the law TokenReads needs, put together out of texts of this session. -/
import Derived.Lib.ItoaLen
import Derived.Test.YtkbhpagogmmgnaaDoorRows
import Derived.WalkKit
import Derived.ProofKit
import Derived.OpenShut
import Derived.Deep.DeepHandedRow
import Derived.Deep.DeepWitnessRowRef
import Derived.Deep.DeepLaidRun
import Derived.Lib.LaidTab
import Derived.Stop.LaidErr
import Derived.Test.YtkbhpagogmmgnaaDoorCards
import Derived.Test.YtkbhpagogmmgnaaDoorTie
import Derived.JoinedCond
import Derived.Deep.CondSized
import Derived.Test.YtkbhpagogmmgnaaDoorZTokenReadsc
section
namespace Go.Proofs.YtkbhpagogmmgnaaDoor.Fw
open Go Go.Hw Go.Proofs
set_option linter.unusedVariables false
set_option linter.unusedSectionVars false
set_option linter.unusedSimpArgs false
def inn (b : UInt8) : Bool := (decide (97 ≤ b.toNat) && decide (b.toNat ≤ 122)) || (decide (65 ≤ b.toNat) && decide (b.toNat ≤ 90)) || (decide (48 ≤ b.toNat) && decide (b.toNat ≤ 57)) || b.toNat == 95
def loB (b : UInt8) : Bool := decide (97 ≤ b.toNat) && decide (b.toNat ≤ 122)
def upB (b : UInt8) : Bool := decide (65 ≤ b.toNat) && decide (b.toNat ≤ 90)
def nameB (f : UInt8 → Bool) (s : ByteArray) : Bool := match s.data.toList with
 | [] => false
 | b :: l => decide (l.length < 16) && f b && (b :: l).all inn
theorem low_val (b : UInt8) : token_low ((b.toNat : Nat) : Int) = some (loB b) := by
 unfold token_low loB
 by_cases h : 97 ≤ b.toNat
 · rw [if_pos (by omega), decide_eq_true h, Bool.true_and]
   congr 1
   rw [decide_eq_decide]; omega
 · rw [if_neg (by omega), decide_eq_false h]; rfl
theorem great_val (b : UInt8) : token_great ((b.toNat : Nat) : Int) = some (upB b) := by
 unfold token_great upB
 by_cases h : 65 ≤ b.toNat
 · rw [if_pos (by omega), decide_eq_true h, Bool.true_and]
   congr 1
   rw [decide_eq_decide]; omega
 · rw [if_neg (by omega), decide_eq_false h]; rfl
theorem inner_val (b : UInt8) : token_inner ((b.toNat : Nat) : Int) = some (inn b) := by
 unfold token_inner
 rw [low_val, Option.bind_some, great_val, Option.bind_some]
 unfold inn loB upB token_digit
 cases (decide (97 ≤ b.toNat) && decide (b.toNat ≤ 122))
 · cases (decide (65 ≤ b.toNat) && decide (b.toNat ≤ 90))
   · by_cases h : 48 ≤ b.toNat
     · rw [if_neg (by decide), if_neg (by decide), if_pos (by omega), Option.bind_some, decide_eq_true h]
       have : decide (((b.toNat : Nat) : Int) ≤ 57) = decide (b.toNat ≤ 57) := by rw [decide_eq_decide]; omega
       rw [this]
       have h2 : (((b.toNat : Nat) : Int) == 95) = (b.toNat == 95) := by
         rw [Bool.eq_iff_iff, beq_iff_eq, beq_iff_eq]; omega
       rw [h2]
       cases decide (b.toNat ≤ 57) <;> simp
     · rw [if_neg (by decide), if_neg (by decide), if_neg (by omega), Option.bind_some, if_neg (by decide), decide_eq_false h]
       have h2 : (((b.toNat : Nat) : Int) == 95) = (b.toNat == 95) := by
         rw [Bool.eq_iff_iff, beq_iff_eq, beq_iff_eq]; omega
       rw [h2]; simp
   · rw [if_neg (by decide), if_pos rfl]; simp
 · rw [if_pos rfl]; simp
theorem all_loop0 {α γ : Type} {l : List α} {F : Int → Option γ} {q : α → Bool} {K : Option γ} (step : ∀ (i : Nat) (hi : i < l.length), F (i : Int) = if q l[i] = true then F ((i + 1 : Nat) : Int) else K) : F 0 = if l.all q = true then F (l.length : Int) else K := by
 have key : ∀ (d i : Nat), l.length - i = d → i ≤ l.length → F (i : Int) = if (l.drop i).all q = true then F (l.length : Int) else K := by
   intro d
   induction d with
   | zero =>
     intro i hd hi
     obtain rfl : i = l.length := by omega
     rw [List.drop_length, if_pos (by simp)]
   | succ d ih =>
     intro i hd hi
     have hlt : i < l.length := by omega
     rw [step i hlt, List.drop_eq_getElem_cons hlt, List.all_cons]
     cases hq : q l[i] with
     | true => rw [if_pos rfl, ih (i + 1) (by omega) hlt, Bool.true_and]
     | false => rw [if_neg (by decide), Bool.false_and, if_neg (by decide)]
 have := key l.length 0 (by omega) (by omega)
 rw [List.drop_zero] at this
 exact this
theorem gb0 {b : UInt8} {l : List UInt8} : gb ⟨⟨b :: l⟩⟩ 0 = some ((b.toNat : Nat) : Int) := rfl
theorem nameB_cons {f : UInt8 → Bool} {b : UInt8} {l : List UInt8} : nameB f ⟨⟨b :: l⟩⟩ = (decide (l.length < 16) && f b && (b :: l).all inn) := rfl
instance memBA (n : ByteArray) (l : List ByteArray) : Decidable (n ∈ l) := @List.instDecidableMemOfLawfulBEq ByteArray instBEqOfDecidableEq inferInstance n l
theorem has_val {l : List ByteArray} (s : ByteArray) (hl : l.length ≤ 4000000) : slices_Contains_22 l s = some (decide (s ∈ l)) := by
 rw [slices_Contains_22.val s (by omega)]
 congr 1
 by_cases h : s ∈ l
 · rw [decide_eq_true h, List.any_eq_true]
   exact ⟨s, h, decide_eq_true rfl⟩
 · rw [decide_eq_false h, List.any_eq_false]
   intro x hx e
   exact h (by rw [of_decide_eq_true e]; exact hx)
theorem all_drop {α : Type} (p : α → Bool) : ∀ l : List α, (l.dropWhile p).all p = l.all p
 | [] => rfl
 | x :: l => by
   cases h : p x with
   | true => rw [List.dropWhile_cons_of_pos h, all_drop p l, List.all_cons, h, Bool.true_and]
   | false => rw [List.dropWhile_cons_of_neg (by rw [h]; decide)]
theorem drop_nil {α : Type} (p : α → Bool) : ∀ l : List α, l.dropWhile p = [] ↔ l.all p = true
 | [] => by simp
 | x :: l => by
   cases h : p x with
   | true => rw [List.dropWhile_cons_of_pos h, drop_nil p l, List.all_cons, h, Bool.true_and]
   | false => rw [List.dropWhile_cons_of_neg (by rw [h]; decide), List.all_cons, h]; simp
theorem trim_nil (l cs : List UInt8) : Lib.trimS l cs = [] ↔ l.all (cs.contains ·) = true := by
 unfold Lib.trimS Lib.trimLeftS Lib.trimRightS
 rw [drop_nil, List.all_reverse, all_drop, List.all_reverse]
def inner63 : ByteArray := (ByteArray.mk #[97, 98, 99, 100, 101, 102, 103, 104, 105, 106, 107, 108, 109, 110, 111, 112, 113, 114, 115, 116, 117, 118, 119, 120, 121, 122, 65, 66, 67, 68, 69, 70, 71, 72, 73, 74, 75, 76, 77, 78, 79, 80, 81, 82, 83, 84, 85, 86, 87, 88, 89, 90, 48, 49, 50, 51, 52, 53, 54, 55, 56, 57, 95])
def low26 : ByteArray := (ByteArray.mk #[97, 98, 99, 100, 101, 102, 103, 104, 105, 106, 107, 108, 109, 110, 111, 112, 113, 114, 115, 116, 117, 118, 119, 120, 121, 122])
def up26 : ByteArray := (ByteArray.mk #[65, 66, 67, 68, 69, 70, 71, 72, 73, 74, 75, 76, 77, 78, 79, 80, 81, 82, 83, 84, 85, 86, 87, 88, 89, 90])
theorem byte_all {p : UInt8 → Prop} [DecidablePred p] (h : ∀ n : Fin 256, p (UInt8.ofNat n.1)) (b : UInt8) : p b := by
 have := h ⟨b.toNat, b.toNat_lt⟩
 have e : UInt8.ofNat b.toNat = b := by simp
 rwa [e] at this
theorem inner_has (b : UInt8) : inner63.data.toList.contains b = inn b := byte_all (p := fun b => inner63.data.toList.contains b = inn b) (by decide +kernel) b
theorem low_has (b : UInt8) : decide (Lib.indexByte low26.data.toList b ≥ 0) = loB b := byte_all (p := fun b => decide (Lib.indexByte low26.data.toList b ≥ 0) = loB b) (by decide +kernel) b
theorem up_has (b : UInt8) : decide (Lib.indexByte up26.data.toList b ≥ 0) = upB b := byte_all (p := fun b => decide (Lib.indexByte up26.data.toList b ≥ 0) = upB b) (by decide +kernel) b
theorem ibyte_at (t : ByteArray) (b : UInt8) : ibyteB t ((b.toNat : Nat) : Int) = Lib.indexByte t.data.toList b := by
 unfold ibyteB
 have : ((b.toNat : Nat) : Int).toNat.toUInt8 = b := by rw [Int.toNat_natCast]; simp
 rw [this]
theorem trim_val {s : ByteArray} (hs : s.size ≤ 9223372036854775807) : strings_Trim s inner63 = some (trimB s inner63) := by
 unfold strings_Trim
 exact if_pos ⟨hs, by decide +kernel, by decide +kernel⟩
theorem trim_dec (s : ByteArray) : decide (trimB s inner63 = ByteArray.mk #[]) = s.data.toList.all inn := by
 have h1 : (trimB s inner63 = ByteArray.mk #[]) ↔ Lib.trimS s.data.toList inner63.data.toList = [] := by
   unfold trimB
   rw [ByteArray.mk.injEq]
   constructor
   · intro h; have := congrArg Array.toList h; simpa using this
   · intro h; rw [h]
 have h2 : (fun b => inner63.data.toList.contains b) = inn := funext inner_has
 rw [Bool.eq_iff_iff, decide_eq_true_iff, h1, trim_nil, h2]
theorem named_val {s t : ByteArray} {f : UInt8 → Bool} (hf : ∀ b : UInt8, decide (Lib.indexByte t.data.toList b ≥ 0) = f b) : roadref2_named s t = some (nameB f s) := by
 obtain ⟨⟨l⟩⟩ := s
 unfold roadref2_named
 cases l with
 | nil => rfl
 | cons b l =>
   have hs : (ByteArray.size ⟨⟨b :: l⟩⟩) = l.length + 1 := rfl
   rw [if_neg (fun h => by have := congrArg (fun s : ByteArray => s.data.toList) h; cases this), hs, nameB_cons]
   by_cases h : l.length < 16
   · rw [if_pos (by omega), gb0, Option.bind_some, decide_eq_true h, Bool.true_and]
     unfold strings_IndexByte
     rw [Option.bind_some, ibyte_at]
     have hf := hf b
     by_cases h0 : Lib.indexByte t.data.toList b ≥ 0
     · rw [decide_eq_true h0] at hf
       rw [if_pos h0, ← hf, Bool.true_and]
       refine (congrArg (fun o => Option.bind o fun y14 => some (decide (y14 = ByteArray.mk #[]))) (trim_val (s := ⟨⟨b :: l⟩⟩) (by rw [hs]; omega))).trans ?_
       rw [Option.bind_some, trim_dec]
     · rw [decide_eq_false h0] at hf
       rw [if_neg h0, ← hf, Bool.false_and]
   · rw [if_neg (by omega), decide_eq_false h]; rfl
noncomputable def WL : List ByteArray := (token_Words).getD []
theorem words_val : token_Words = some WL := rfl
theorem words_len : WL.length = 38 := rfl
noncomputable def lowS (s : ByteArray) : Bool := nameB loB s && !decide (s ∈ WL)
def upS (s : ByteArray) : Bool := nameB upB s
theorem isWord_val (s : ByteArray) : token_IsWord s = some (decide (s ∈ WL)) := by
 unfold token_IsWord
 rw [words_val, Option.bind_some]
 refine (all_loop0 (l := WL) (F := fun i => token_IsWord.l0 s WL (WL.length : Int) i) (q := fun w => !decide (w = s)) (K := some true) (fun i hi => by
   have := words_len
   show token_IsWord.l0 _ _ _ _ = _
   rw [token_IsWord.l0_eq, if_pos (by omega), gi_at hi, Option.bind_some, w_succ (by omega)]
   by_cases h : WL[i] = s
   · rw [if_pos h, decide_eq_true h]; rfl
   · rw [if_neg h, decide_eq_false h]; rfl)).trans ?_
 have : token_IsWord.l0 s WL (WL.length : Int) (WL.length : Int) = some false := by
   rw [token_IsWord.l0_eq, if_neg (by omega)]
 rw [this]
 by_cases h : s ∈ WL
 · rw [decide_eq_true h, if_neg]
   intro hc
   have := List.all_eq_true.1 hc s h
   simp at this
 · rw [decide_eq_false h, if_pos]
   exact List.all_eq_true.2 fun x hx => by
     rw [decide_eq_false (p := x = s) (fun e => h (by rw [← e]; exact hx))]; rfl
theorem ext26 : ByteArray.extract inner63 (Int.toNat 0) (Int.toNat 26) = low26 := by kernel_rfl
theorem ext52 : ByteArray.extract inner63 (Int.toNat 26) (Int.toNat 52) = up26 := by kernel_rfl
theorem wordList_val : roadref2_WordList = some WL := by
 unfold roadref2_WordList strings_Fields
 rw [if_pos ⟨by decide +kernel, by decide +kernel⟩, Option.bind_some]
 exact congrArg some (by kernel_rfl)
theorem small_val (s : ByteArray) : roadref2_Small s = some (lowS s) := by
 unfold roadref2_Small
 rw [if_pos (by decide +kernel)]
 show Option.bind (roadref2_named s (ByteArray.extract inner63 (Int.toNat 0) (Int.toNat 26))) _ = _
 rw [ext26, named_val low_has, Option.bind_some]
 unfold lowS
 cases nameB loB s
 · rw [if_neg (by decide)]; rfl
 · rw [if_pos rfl, wordList_val, Option.bind_some, has_val s (by rw [words_len]; omega), Option.bind_some, Bool.true_and]
theorem greatN_val (s : ByteArray) : roadref2_Great s = some (upS s) := by
 unfold roadref2_Great
 rw [if_pos (by decide +kernel)]
 show Option.bind (roadref2_named s (ByteArray.extract inner63 (Int.toNat 26) (Int.toNat 52))) _ = _
 rw [ext52, named_val up_has, Option.bind_some]; rfl
def mkB (l : List UInt8) : ByteArray := ⟨⟨l⟩⟩
theorem mkB_size (l : List UInt8) : (mkB l).size = l.length := rfl
theorem mkB_of (s : ByteArray) : s = mkB s.data.toList := by cases s; rfl
theorem mkB_inj {a b : List UInt8} (h : mkB a = mkB b) : a = b := congrArg (fun s : ByteArray => s.data.toList) h
theorem mkB_dec (a b : List UInt8) : decide (mkB a = mkB b) = decide (a = b) := by rw [decide_eq_decide]; exact ⟨mkB_inj, fun h => by rw [h]⟩
theorem mkB_nil : ByteArray.mk #[] = mkB [] := rfl
theorem mkB_app (a b : List UInt8) : mkB a ++ mkB b = mkB (a ++ b) := by
 have : (mkB a ++ mkB b).data = (mkB (a ++ b)).data := by rw [ByteArray.data_append]; simp [mkB]
 cases h : mkB a ++ mkB b
 rw [h] at this
 simp only at this
 rw [this]
theorem gb_at {l : List UInt8} {i : Nat} (h : i < l.length) : gb (mkB l) (i : Int) = some ((l[i].toNat : Nat) : Int) := by
 unfold gb
 rw [if_pos (by omega), Int.toNat_natCast]
 have : (mkB l)[i]? = some l[i] := by
   have h2 : i < (mkB l).size := h
   rw [getElem?_pos (mkB l) i h2]
   rfl
 rw [this]; rfl
theorem gb_0 {b : UInt8} {l : List UInt8} : gb (mkB (b :: l)) 0 = some ((b.toNat : Nat) : Int) := rfl
theorem ext_mk (l : List UInt8) (a b : Nat) : ByteArray.extract (mkB l) a b = mkB ((l.take b).drop a) := by
 have : (ByteArray.extract (mkB l) a b).data = (mkB ((l.take b).drop a)).data := by
   rw [ByteArray.data_extract]
   apply Array.toList_inj.1
   show (Array.extract ⟨l⟩ a b).toList = (l.take b).drop a
   rw [Array.toList_extract, List.drop_take]
 cases h : ByteArray.extract (mkB l) a b
 rw [h] at this
 simp only at this
 rw [this]
theorem ext_to (l : List UInt8) (a : Nat) : ByteArray.extract (mkB l) (Int.toNat (a : Int)) (Int.toNat ((mkB l).size : Int)) = mkB (l.drop a) := by
 rw [Int.toNat_natCast, Int.toNat_natCast, ext_mk, mkB_size, List.take_length]
def tw (p : UInt8 → Bool) (l : List UInt8) : Nat := (l.takeWhile p).length
theorem tw_nil (p : UInt8 → Bool) : tw p [] = 0 := rfl
theorem tw_t {p : UInt8 → Bool} {b : UInt8} {l : List UInt8} (h : p b = true) : tw p (b :: l) = tw p l + 1 := by unfold tw; rw [List.takeWhile_cons_of_pos h]; rfl
theorem tw_f {p : UInt8 → Bool} {b : UInt8} {l : List UInt8} (h : p b = false) : tw p (b :: l) = 0 := by unfold tw; rw [List.takeWhile_cons_of_neg (by rw [h]; decide)]; rfl
theorem tw_le (p : UInt8 → Bool) (l : List UInt8) : tw p l ≤ l.length := by unfold tw; exact List.Sublist.length_le (List.takeWhile_sublist p)
theorem drop_cons {l : List UInt8} {i : Nat} (h : i < l.length) : l.drop i = l[i] :: l.drop (i + 1) := List.drop_eq_getElem_cons h
theorem run_at {t : ByteArray} {p : UInt8 → Bool} (hp : ∀ b : UInt8, decide (Lib.indexByte t.data.toList b ≥ 0) = p b) (l : List UInt8) (hl : l.length ≤ 100000) : ∀ (d i : Nat), l.length - i = d → i ≤ l.length → roadref2_run.l0 (mkB l) t (i : Int) = some (((i + tw p (l.drop i) : Nat)) : Int) := by
 intro d
 induction d with
 | zero =>
   intro i hd hi
   obtain rfl : i = l.length := by omega
   rw [roadref2_run.l0_eq, mkB_size, if_neg (by omega), List.drop_length, tw_nil, Nat.add_zero]
 | succ d ih =>
   intro i hd hi
   have hlt : i < l.length := by omega
   rw [roadref2_run.l0_eq, mkB_size, if_pos (by omega), gb_at hlt, Option.bind_some]
   unfold strings_IndexByte
   rw [Option.bind_some, ibyte_at, drop_cons hlt]
   have h := hp l[i]
   by_cases c : Lib.indexByte t.data.toList l[i] ≥ 0
   · rw [decide_eq_true c] at h
     rw [if_pos c, roadref2_run.j0_eq, w_succ (by omega), ih (i + 1) (by omega) hlt, tw_t h.symm]
     congr 2; omega
   · rw [decide_eq_false c] at h
     rw [if_neg c, tw_f h.symm]; rfl
theorem run_val {t : ByteArray} {p : UInt8 → Bool} (hp : ∀ b : UInt8, decide (Lib.indexByte t.data.toList b ≥ 0) = p b) {l : List UInt8} (hl : l.length ≤ 100000) : roadref2_run (mkB l) t = some ((tw p l : Nat) : Int) := by
 unfold roadref2_run
 have := run_at hp l hl l.length 0 (by omega) (by omega)
 rw [List.drop_zero, Nat.zero_add] at this
 exact this
def spB (b : UInt8) : Bool := b.toNat == 32 || b.toNat == 9 || b.toNat == 10
def dgB (b : UInt8) : Bool := decide (48 ≤ b.toNat) && decide (b.toNat ≤ 57)
def hxB (b : UInt8) : Bool := dgB b || (decide (97 ≤ b.toNat) && decide (b.toNat ≤ 102))
theorem sp_has (b : UInt8) : decide (Lib.indexByte (ByteArray.mk #[32, 9, 10]).data.toList b ≥ 0) = spB b := byte_all (p := fun b => decide (Lib.indexByte (ByteArray.mk #[32, 9, 10]).data.toList b ≥ 0) = spB b) (by decide +kernel) b
def dig10 : ByteArray := ByteArray.mk #[48, 49, 50, 51, 52, 53, 54, 55, 56, 57]
theorem ext62 : ByteArray.extract inner63 (Int.toNat 52) (Int.toNat 62) = dig10 := by kernel_rfl
theorem dg_has (b : UInt8) : decide (Lib.indexByte dig10.data.toList b ≥ 0) = dgB b := byte_all (p := fun b => decide (Lib.indexByte dig10.data.toList b ≥ 0) = dgB b) (by decide +kernel) b
theorem hx_has (b : UInt8) : decide (Lib.indexByte (ByteArray.mk #[48, 49, 50, 51, 52, 53, 54, 55, 56, 57, 97, 98, 99, 100, 101, 102]).data.toList b ≥ 0) = hxB b := byte_all (p := fun b => decide (Lib.indexByte (ByteArray.mk #[48, 49, 50, 51, 52, 53, 54, 55, 56, 57, 97, 98, 99, 100, 101, 102]).data.toList b ≥ 0) = hxB b) (by decide +kernel) b
theorem inn_has (b : UInt8) : decide (Lib.indexByte inner63.data.toList b ≥ 0) = inn b := byte_all (p := fun b => decide (Lib.indexByte inner63.data.toList b ≥ 0) = inn b) (by decide +kernel) b
theorem digit_val (b : UInt8) : token_digit ((b.toNat : Nat) : Int) = some (dgB b) := by
 unfold token_digit dgB
 by_cases h : 48 ≤ b.toNat
 · rw [if_pos (by omega), decide_eq_true h, Bool.true_and]
   congr 1
   rw [decide_eq_decide]; omega
 · rw [if_neg (by omega), decide_eq_false h]; rfl
section
variable {l : List UInt8} (hl : l.length ≤ 4000)
include hl
theorem sk_in {i : Nat} (h : i < l.length) : token_skip.l0 (mkB l) (i : Int) = if spB l[i] = true then token_skip.l0 (mkB l) ((i + 1 : Nat) : Int) else if l[i].toNat = 35 then token_skip.l1 (mkB l) (i : Int) else some (i : Int) := by
 rw [token_skip.l0_eq, mkB_size, if_pos (by omega), gb_at h, Option.bind_some]
 have J : ∀ b, token_skip.j0 (mkB l) (i : Int) ((l[i].toNat : Nat) : Int) b = if b = true then token_skip.l0 (mkB l) ((i + 1 : Nat) : Int) else if l[i].toNat = 35 then token_skip.l1 (mkB l) (i : Int) else some (i : Int) := fun b => by
   rw [token_skip.j0_eq, w_succ (by omega)]
   cases b
   · simp only [Bool.false_eq_true, ↓reduceIte]
     by_cases c : l[i].toNat = 35
     · rw [if_pos (by omega), if_pos c]
     · rw [if_neg (by omega), if_neg c]
   · simp only [↓reduceIte]
 unfold spB
 by_cases a : l[i].toNat = 32
 · rw [if_pos (by omega), J, a]; rfl
 rw [if_neg (by omega)]
 by_cases b : l[i].toNat = 9
 · rw [if_pos (by omega), J, b]; rfl
 rw [if_neg (by omega), J]
 have e : (((l[i].toNat : Nat) : Int) == 10) = (l[i].toNat == 32 || l[i].toNat == 9 || l[i].toNat == 10) := by
   rw [Bool.eq_iff_iff]
   simp only [Bool.or_eq_true, beq_iff_eq]
   omega
 rw [e]
def nlB (b : UInt8) : Bool := !(b.toNat == 10)
omit hl in
theorem nl_t {b : UInt8} (h : b.toNat = 10) : nlB b = false := by unfold nlB; rw [h]; rfl
omit hl in
theorem nl_f {b : UInt8} (h : ¬ b.toNat = 10) : nlB b = true := by unfold nlB; simpa using h
theorem sk_line : ∀ (d i : Nat), l.length - i = d → i ≤ l.length → token_skip.l1 (mkB l) (i : Int) = token_skip.l0 (mkB l) ((i + tw nlB (l.drop i) : Nat) : Int) := by
 intro d
 induction d with
 | zero =>
   intro i hd hi
   obtain rfl : i = l.length := by omega
   rw [token_skip.l1_eq, mkB_size, if_neg (by omega), List.drop_length, tw_nil, Nat.add_zero]
 | succ d ih =>
   intro i hd hi
   have h : i < l.length := by omega
   rw [token_skip.l1_eq, mkB_size, if_pos (by omega), gb_at h, Option.bind_some, drop_cons h]
   by_cases c : l[i].toNat = 10
   · rw [if_pos (by omega), tw_f (nl_t c)]; rfl
   · rw [if_neg (by omega), token_skip.j1_eq, w_succ (by omega), ih (i + 1) (by omega) h, tw_t (nl_f c), show i + 1 + tw nlB (l.drop (i + 1)) = i + (tw nlB (l.drop (i + 1)) + 1) by omega]
omit hl in
theorem index_nl : ∀ r : List UInt8, (Lib.indexByte r 10 < 0 → tw nlB r = r.length) ∧ (¬ Lib.indexByte r 10 < 0 → Lib.indexByte r 10 = ((tw nlB r : Nat) : Int))
 | [] => ⟨fun _ => rfl, fun h => absurd (by decide) h⟩
 | b :: r => by
   have ih := index_nl r
   have g := Lib.indexByte_ge r 10
   by_cases c : b.toNat = 10
   · have e : b = 10 := by
       have : UInt8.ofNat b.toNat = UInt8.ofNat 10 := by rw [c]
       simpa using this
     subst e
     have h0 : Lib.indexByte ((10 : UInt8) :: r) 10 = 0 := by unfold Lib.indexByte; simp
     rw [h0, tw_f (nl_t c)]
     exact ⟨fun h => absurd h (by decide), fun _ => rfl⟩
   · have hb : (b == (10 : UInt8)) = false := by
       rw [beq_eq_false_iff_ne]; intro e; subst e; exact c rfl
     have h0 : Lib.indexByte (b :: r) 10 = if Lib.indexByte r 10 == -1 then -1 else Lib.indexByte r 10 + 1 := by
       rw [Lib.indexByte, hb]; rfl
     rw [h0, tw_t (nl_f c), List.length_cons]
     by_cases m : Lib.indexByte r 10 = -1
     · rw [if_pos (by simpa using m)]
       exact ⟨fun _ => by rw [ih.1 (by omega)], fun h => absurd (by decide) h⟩
     · rw [if_neg (by simpa using m)]
       exact ⟨fun h => by omega, fun _ => by rw [ih.2 (by omega)]; omega⟩
theorem tk_blank {a : List T_roadref2_Tok} {i : Nat} (h : i < l.length) (hs : spB l[i] = true) : roadref2_Tokens.l0 (mkB l) a (i : Int) = roadref2_Tokens.l0 (mkB l) a ((i + tw spB (l.drop i) : Nat) : Int) := by
 have hw := tw_le spB (l.drop i)
 rw [List.length_drop] at hw
 have hp : 1 ≤ tw spB (l.drop i) := by rw [drop_cons h, tw_t hs]; omega
 rw [roadref2_Tokens.l0_eq, mkB_size, if_pos (by omega), if_pos ⟨by omega, by omega, by omega⟩]
 show Option.bind (roadref2_run (ByteArray.extract (mkB l) (Int.toNat (i : Int)) (Int.toNat ((mkB l).size : Int))) _) _ = _
 rw [ext_to, run_val sp_has (by rw [List.length_drop]; omega), Option.bind_some, if_pos (by omega), wrap_in (by omega) (by omega)]
 rfl
theorem tk_blank1 {a : List T_roadref2_Tok} {i : Nat} (h : i < l.length) (hs : spB l[i] = true) : roadref2_Tokens.l0 (mkB l) a (i : Int) = roadref2_Tokens.l0 (mkB l) a ((i + 1 : Nat) : Int) := by
 rw [tk_blank hl h hs, drop_cons h, tw_t hs]
 by_cases h2 : i + 1 < l.length
 · cases s2 : spB l[i + 1] with
   | true => rw [tk_blank hl h2 s2, show i + (tw spB (l.drop (i + 1)) + 1) = i + 1 + tw spB (l.drop (i + 1)) by omega]
   | false => rw [drop_cons h2, tw_f s2]
 · have : l.drop (i + 1) = [] := List.drop_eq_nil_of_le (by omega)
   rw [this, tw_nil]
theorem tk_note {a : List T_roadref2_Tok} {i : Nat} (h : i < l.length) (hs : spB l[i] = false) (h35 : l[i].toNat = 35) : roadref2_Tokens.l0 (mkB l) a (i : Int) = roadref2_Tokens.l0 (mkB l) a ((i + tw nlB (l.drop i) : Nat) : Int) := by
 have hw := tw_le nlB (l.drop i)
 rw [List.length_drop] at hw
 have hx := index_nl (l.drop i)
 rw [List.length_drop] at hx
 rw [roadref2_Tokens.l0_eq, mkB_size, if_pos (by omega), if_pos ⟨by omega, by omega, by omega⟩]
 show Option.bind (roadref2_run (ByteArray.extract (mkB l) (Int.toNat (i : Int)) (Int.toNat ((mkB l).size : Int))) _) _ = _
 rw [ext_to, run_val sp_has (by rw [List.length_drop]; omega), Option.bind_some, drop_cons h, tw_f hs, if_neg (by omega), gb_at h, Option.bind_some, if_pos (by omega), if_pos ⟨by omega, by omega, by omega⟩]
 show Option.bind (strings_IndexByte (ByteArray.extract (mkB l) (Int.toNat (i : Int)) (Int.toNat ((mkB l).size : Int))) 10) _ = _
 unfold strings_IndexByte
 have e : ibyteB (mkB (l.drop i)) 10 = Lib.indexByte (l.drop i) 10 := rfl
 rw [ext_to, Option.bind_some, e, ← drop_cons h]
 by_cases m : Lib.indexByte (l.drop i) 10 < 0
 · have w1 : IntKind.wrap .i64 ((l.length : Int) - (i : Int)) = (l.length : Int) - (i : Int) := wrap_in (by omega) (by omega)
   rw [if_pos m, roadref2_Tokens.j0_eq, w1, wrap_in (by omega) (by omega), hx.1 m, show (i : Int) + ((l.length : Int) - (i : Int)) = ((i + (l.length - i) : Nat) : Int) by omega]
 · rw [if_neg m, roadref2_Tokens.j0_eq, hx.2 m, wrap_in (by omega) (by omega)]
   rfl
theorem skip_all (a : List T_roadref2_Tok) : ∀ (d i : Nat), l.length - i ≤ d → i ≤ l.length → ∃ k, i ≤ k ∧ k ≤ l.length ∧ token_skip.l0 (mkB l) (i : Int) = some (k : Int) ∧ roadref2_Tokens.l0 (mkB l) a (i : Int) = roadref2_Tokens.l0 (mkB l) a (k : Int) ∧ ∀ h : k < l.length, spB l[k] = false ∧ ¬ l[k].toNat = 35 := by
 intro d
 induction d with
 | zero =>
   intro i hd hi
   obtain rfl : i = l.length := by omega
   exact ⟨l.length, by omega, by omega, by rw [token_skip.l0_eq, mkB_size, if_neg (by omega)], rfl, fun h => by omega⟩
 | succ d ih =>
   intro i hd hi
   by_cases h : i < l.length
   · cases hs : spB l[i] with
     | true =>
       obtain ⟨k, k1, k2, k3, k4, k5⟩ := ih (i + 1) (by omega) h
       exact ⟨k, by omega, k2, by rw [sk_in hl h, if_pos hs, k3], by rw [tk_blank1 hl h hs, k4], k5⟩
     | false =>
       by_cases c : l[i].toNat = 35
       · have hw := tw_le nlB (l.drop i)
         rw [List.length_drop] at hw
         have hp : 1 ≤ tw nlB (l.drop i) := by rw [drop_cons h, tw_t (nl_f (by omega))]; omega
         obtain ⟨k, k1, k2, k3, k4, k5⟩ := ih (i + tw nlB (l.drop i)) (by omega) (by omega)
         exact ⟨k, by omega, k2, by rw [sk_in hl h, if_neg (by rw [hs]; decide), if_pos c, sk_line hl _ i rfl (by omega), k3], by rw [tk_note hl h hs c, k4], k5⟩
       · exact ⟨i, by omega, by omega, by rw [sk_in hl h, if_neg (by rw [hs]; decide), if_neg c], rfl, fun _ => ⟨hs, c⟩⟩
   · obtain rfl : i = l.length := by omega
     exact ⟨l.length, by omega, by omega, by rw [token_skip.l0_eq, mkB_size, if_neg (by omega)], rfl, fun h => by omega⟩
end
abbrev Tk := T_token_Token
abbrev Rk := T_roadref2_Tok
def Ag (n i : Nat) (o : Option (Tk × Int × Bool)) (q : Option (Rk × Int)) : Prop :=
 ∃ t k ok T m, o = some (t, k, ok) ∧ q = some (T, m) ∧ (ok = true → ∃ j : Nat, 1 ≤ j ∧ i + j ≤ n ∧ m = (j : Int) ∧ k = ((i + j : Nat) : Int) ∧ T.Kind = t.Kind ∧ T.Text = t.Text ∧ t.At = (i : Int)) ∧ (ok = false → m < 0)
theorem Ag.no {n i : Nat} {t : Tk} {k : Int} {T : Rk} {m : Int} (h : m < 0) : Ag n i (some (t, k, false)) (some (T, m)) := ⟨_, _, _, _, _, rfl, rfl, fun h => (by cases h), fun _ => h⟩
theorem Ag.yes {n i j : Nat} {t : Tk} {T : Rk} (h1 : 1 ≤ j) (h2 : i + j ≤ n) (h3 : T.Kind = t.Kind) (h4 : T.Text = t.Text) (h5 : t.At = (i : Int)) : Ag n i (some (t, ((i + j : Nat) : Int), true)) (some (T, (j : Int))) := ⟨_, _, _, _, _, rfl, rfl, fun _ => ⟨j, h1, h2, rfl, rfl, h3, h4, h5⟩, fun h => (by cases h)⟩
theorem words_ok : (WL.all fun w => decide (w.size ≤ 16) && match w.data.toList with
 | [] => false
 | b :: _ => loB b) = true := by kernel_rfl
theorem word_low {b : UInt8} {w : List UInt8} (h : mkB (b :: w) ∈ WL) : w.length < 16 ∧ loB b = true := by
 have := List.all_eq_true.1 words_ok _ h
 rw [Bool.and_eq_true, decide_eq_true_iff] at this
 have h1 : w.length + 1 ≤ 16 := this.1
 exact ⟨by omega, this.2⟩
theorem take_tw (p : UInt8 → Bool) (r : List UInt8) : r.take (tw p r) = r.takeWhile p := by
 unfold tw
 induction r with
 | nil => rfl
 | cons b r ih =>
   cases h : p b with
   | true => rw [List.takeWhile_cons_of_pos h, List.length_cons, List.take_succ_cons, ih]
   | false => rw [List.takeWhile_cons_of_neg (by rw [h]; decide), List.length_nil, List.take_zero]
theorem tw_all (p : UInt8 → Bool) : ∀ r : List UInt8, (r.takeWhile p).all p = true
 | [] => rfl
 | b :: r => by
   cases h : p b with
   | true => rw [List.takeWhile_cons_of_pos h, List.all_cons, h, tw_all p r]; rfl
   | false => rw [List.takeWhile_cons_of_neg (by rw [h]; decide)]; rfl
theorem low_facts {b : UInt8} (h : loB b = true ∨ upB b = true) : inn b = true ∧ dgB b = false ∧ ¬ b.toNat = 34 ∧ ¬ b.toNat = 95 ∧ (loB b = true → upB b = false) := by
 refine byte_all (p := fun b => (loB b = true ∨ upB b = true) → inn b = true ∧ dgB b = false ∧ ¬ b.toNat = 34 ∧ ¬ b.toNat = 95 ∧ (loB b = true → upB b = false)) (by decide +kernel) b h
theorem dig_facts {b : UInt8} (h : dgB b = true) : loB b = false ∧ upB b = false ∧ ¬ b.toNat = 34 := by
 refine byte_all (p := fun b => dgB b = true → loB b = false ∧ upB b = false ∧ ¬ b.toNat = 34) (by decide +kernel) b h
section
variable {l : List UInt8} (hl : l.length ≤ 4000)
include hl
theorem nx_l0 (x1 : Int) (y : Tk) (x7 : Int) : ∀ (d k : Nat), l.length - k = d → k ≤ l.length → token_next.l0 (mkB l) x1 y x7 (k : Int) = token_next.j2 (mkB l) x1 y x7 ((k + tw inn (l.drop k) : Nat) : Int) := by
 intro d
 induction d with
 | zero =>
   intro k hd hk
   obtain rfl : k = l.length := by omega
   rw [token_next.l0_eq, mkB_size, if_neg (by omega), List.drop_length, tw_nil, Nat.add_zero]
 | succ d ih =>
   intro k hd hk
   have h : k < l.length := by omega
   rw [token_next.l0_eq, mkB_size, if_pos (by omega), gb_at h, Option.bind_some, inner_val, Option.bind_some, drop_cons h]
   cases c : inn l[k] with
   | true => rw [if_pos rfl, token_next.j5_eq, w_succ (by omega), ih (k + 1) (by omega) h, tw_t c, show k + 1 + tw inn (l.drop (k + 1)) = k + (tw inn (l.drop (k + 1)) + 1) by omega]
   | false => rw [if_neg (by decide), tw_f c]; rfl
theorem nx_l1 (x1 : Int) (y : Tk) : ∀ (d k : Nat), l.length - k = d → k ≤ l.length → token_next.l1 (mkB l) x1 y (k : Int) = token_next.j4 (mkB l) x1 y ((k + tw dgB (l.drop k) : Nat) : Int) := by
 intro d
 induction d with
 | zero =>
   intro k hd hk
   obtain rfl : k = l.length := by omega
   rw [token_next.l1_eq, mkB_size, if_neg (by omega), List.drop_length, tw_nil, Nat.add_zero]
 | succ d ih =>
   intro k hd hk
   have h : k < l.length := by omega
   rw [token_next.l1_eq, mkB_size, if_pos (by omega), gb_at h, Option.bind_some, digit_val, Option.bind_some, drop_cons h]
   cases c : dgB l[k] with
   | true => rw [if_pos rfl, token_next.j6_eq, w_succ (by omega), ih (k + 1) (by omega) h, tw_t c, show k + 1 + tw dgB (l.drop (k + 1)) = k + (tw dgB (l.drop (k + 1)) + 1) by omega]
   | false => rw [if_neg (by decide), tw_f c]; rfl
omit hl in
theorem ext_in (i n : Nat) : ByteArray.extract (mkB l) (Int.toNat (i : Int)) (Int.toNat ((i + n : Nat) : Int)) = mkB ((l.drop i).take n) := by
 rw [Int.toNat_natCast, Int.toNat_natCast, ext_mk, List.drop_take, show i + n - i = n by omega]
omit hl in
theorem ext_0 (r : List UInt8) (n : Nat) : ByteArray.extract (mkB r) (Int.toNat 0) (Int.toNat (n : Int)) = mkB (r.take n) := by
 have := ext_in (l := r) 0 n
 rw [Nat.zero_add, List.drop_zero] at this
 exact this
theorem name_ag {i : Nat} (h : i < l.length) (hb : loB l[i] = true ∨ upB l[i] = true) : Ag l.length i (token_next (mkB l) (i : Int)) (roadref2_token (mkB (l.drop i))) := by
 obtain ⟨f1, f2, f3, f4, f5⟩ := low_facts hb
 generalize hr : l.drop i = r
 have hrl : r.length = l.length - i := by rw [← hr, List.length_drop]
 have hrc : r = l[i] :: l.drop (i + 1) := by rw [← hr, drop_cons h]
 generalize hn : tw inn r = n
 have hn1 : n = tw inn (l.drop (i + 1)) + 1 := by rw [← hn, hrc, tw_t f1]
 have hnle : n ≤ r.length := by rw [← hn]; exact tw_le _ _
 have hW : r.take n = l[i] :: (l.drop (i + 1)).takeWhile inn := by rw [← hn, take_tw, hrc, List.takeWhile_cons_of_pos f1]
 have hWl : ((l.drop (i + 1)).takeWhile inn).length = n - 1 := by
   have : tw inn (l.drop (i + 1)) = n - 1 := by omega
   exact this
 have hall : (l[i] :: (l.drop (i + 1)).takeWhile inn).all inn = true := by rw [List.all_cons, f1, tw_all]; rfl
 have hlow : nameB loB (mkB (r.take n)) = (decide (n ≤ 16) && loB l[i]) := by
   rw [hW]
   show (decide (((l.drop (i + 1)).takeWhile inn).length < 16) && loB l[i] && _) = _
   rw [hall, hWl, Bool.and_true]
   congr 1
   rw [decide_eq_decide]; omega
 have hup : nameB upB (mkB (r.take n)) = (decide (n ≤ 16) && upB l[i]) := by
   rw [hW]
   show (decide (((l.drop (i + 1)).takeWhile inn).length < 16) && upB l[i] && _) = _
   rw [hall, hWl, Bool.and_true]
   congr 1
   rw [decide_eq_decide]; omega
 -- the program
 have P : token_next (mkB l) (i : Int) = some (T_token_Token.mk (if loB l[i] = true then (if mkB (r.take n) ∈ WL then 3 else 1) else 2) (mkB (r.take n)) (i : Int), ((i + n : Nat) : Int), decide (n ≤ 16)) := by
   unfold token_next
   rw [gb_at h, Option.bind_some, low_val, Option.bind_some]
   have J : token_next.j1 (mkB l) (i : Int) (T_token_Token.mk 0 (ByteArray.mk #[]) 0) ((l[i].toNat : Nat) : Int) (i : Int) true = some (T_token_Token.mk (if loB l[i] = true then (if mkB (r.take n) ∈ WL then 3 else 1) else 2) (mkB (r.take n)) (i : Int), ((i + n : Nat) : Int), decide (n ≤ 16)) := by
     unfold token_next.j1
     rw [if_pos rfl, nx_l0 hl _ _ _ _ i rfl (by omega), hr, hn]
     unfold token_next.j2
     rw [mkB_size, if_pos ⟨by omega, by omega, by omega⟩, low_val, Option.bind_some, ext_in, hr]
     have e : decide ((IntKind.wrap .i64 (((i + n : Nat) : Int) - (i : Int))) ≤ 16) = decide (n ≤ 16) := by
       rw [wrap_in (by omega) (by omega), decide_eq_decide]; omega
     unfold token_next.j3
     rw [e]
     cases c : loB l[i] with
     | true =>
       rw [if_pos rfl, isWord_val, Option.bind_some, if_pos rfl]
       by_cases w : mkB (r.take n) ∈ WL
       · rw [decide_eq_true w, if_pos rfl, if_pos w]
       · rw [decide_eq_false w, if_neg (by decide), if_neg w]
     | false => rw [if_neg (by decide), if_neg (by decide)]
   cases c : loB l[i] with
   | true => rw [if_pos rfl, J, c]
   | false =>
     have hu : upB l[i] = true := hb.elim (fun h => by rw [c] at h; cases h) id
     rw [if_neg (by decide), great_val, Option.bind_some, hu, J, c]
 -- the reference
 have R : roadref2_token (mkB r) = if mkB (r.take n) ∈ WL then some (T_roadref2_Tok.mk 3 (mkB (r.take n)) 0, (n : Int)) else if lowS (mkB (r.take n)) = true then some (T_roadref2_Tok.mk 1 (mkB (r.take n)) 0, (n : Int)) else if upS (mkB (r.take n)) = true then some (T_roadref2_Tok.mk 2 (mkB (r.take n)) 0, (n : Int)) else some (T_roadref2_Tok.mk 0 (ByteArray.mk #[]) 0, -1) := by
   unfold roadref2_token
   have g0 : gb (mkB r) 0 = some ((l[i].toNat : Nat) : Int) := by rw [hrc, gb_0]
   rw [g0, Option.bind_some, if_neg (by omega), if_pos (by decide +kernel)]
   show Option.bind (roadref2_run (mkB r) (ByteArray.extract inner63 (Int.toNat 52) (Int.toNat 62))) _ = _
   rw [ext62, run_val dg_has (by omega), Option.bind_some]
   have z : tw dgB r = 0 := by rw [hrc, tw_f f2]
   rw [z, if_neg (by decide)]
   show Option.bind (roadref2_run (mkB r) inner63) _ = _
   rw [run_val inn_has (by omega), Option.bind_some, hn, if_pos (by omega), Option.bind_some]
   have e95 : (((l[i].toNat : Nat) : Int) != 95) = true := by rw [bne_iff_ne]; omega
   rw [e95]
   unfold roadref2_token.j1
   rw [if_pos rfl, mkB_size, if_pos ⟨by omega, by omega, by omega⟩, wordList_val, Option.bind_some, ext_0, has_val _ (by rw [words_len]; omega), Option.bind_some]
   by_cases w : mkB (r.take n) ∈ WL
   · rw [decide_eq_true w, if_pos rfl, if_pos w]
   · rw [decide_eq_false w, if_neg (by decide), if_neg w, small_val, Option.bind_some]
     cases lowS (mkB (r.take n))
     · rw [if_neg (by decide), if_neg (by decide), greatN_val, Option.bind_some]
     · rw [if_pos rfl, if_pos rfl]
 rw [P, R]
 by_cases w : mkB (r.take n) ∈ WL
 · have := word_low (hW ▸ w)
   rw [hWl] at this
   rw [if_pos w, if_pos this.2, if_pos w, decide_eq_true (show n ≤ 16 by omega)]
   exact Ag.yes (by omega) (by omega) rfl rfl rfl
 · simp only [if_neg w]
   unfold lowS upS
   rw [hlow, hup, decide_eq_false w, Bool.not_false, Bool.and_true]
   by_cases c : n ≤ 16
   · rw [decide_eq_true c, Bool.true_and, Bool.true_and]
     cases d : loB l[i] with
     | true =>
       simp only [↓reduceIte]
       exact Ag.yes (j := n) (by omega) (by omega) rfl rfl rfl
     | false =>
       have hu : upB l[i] = true := hb.elim (fun h => by rw [d] at h; cases h) id
       simp only [Bool.false_eq_true, ↓reduceIte, hu]
       exact Ag.yes (j := n) (by omega) (by omega) rfl rfl rfl
   · simp only [decide_eq_false c, Bool.false_and, Bool.false_eq_true, ↓reduceIte]
     exact Ag.no (m := -1) (by decide)
theorem num_ag {i : Nat} (h : i < l.length) (hb : dgB l[i] = true) : Ag l.length i (token_next (mkB l) (i : Int)) (roadref2_token (mkB (l.drop i))) := by
 obtain ⟨f1, f2, f3⟩ := dig_facts hb
 generalize hr : l.drop i = r
 have hrl : r.length = l.length - i := by rw [← hr, List.length_drop]
 have hrc : r = l[i] :: l.drop (i + 1) := by rw [← hr, drop_cons h]
 generalize hn : tw dgB r = n
 have hn1 : 1 ≤ n := by rw [← hn, hrc, tw_t hb]; omega
 have hnle : n ≤ r.length := by rw [← hn]; exact tw_le _ _
 have hd : r.drop n = l.drop (i + n) := by rw [← hr, List.drop_drop]
 generalize hm : tw inn (l.drop (i + n)) = m
 have P : token_next (mkB l) (i : Int) = some (T_token_Token.mk 4 (mkB (r.take n)) (i : Int), ((i + n : Nat) : Int), decide (m = 0)) := by
   unfold token_next
   rw [gb_at h, Option.bind_some, low_val, Option.bind_some, f1, if_neg (by decide), great_val, Option.bind_some, f2]
   unfold token_next.j1
   rw [if_neg (by decide), digit_val, Option.bind_some, hb, if_pos rfl, nx_l1 hl _ _ _ i rfl (by omega), hr, hn]
   unfold token_next.j4
   rw [mkB_size, if_pos ⟨by omega, by omega, by omega⟩, ext_in, hr]
   by_cases c : i + n < l.length
   · rw [if_neg (by omega), gb_at c, Option.bind_some, inner_val, Option.bind_some]
     have : (!inn l[i + n]) = decide (m = 0) := by
       rw [← hm, drop_cons c]
       cases d : inn l[i + n] with
       | true => rw [tw_t d]; rfl
       | false => rw [tw_f d]; rfl
     rw [this]
   · rw [if_pos (by omega)]
     have : decide (m = 0) = true := by rw [← hm, List.drop_eq_nil_of_le (by omega), tw_nil]; rfl
     rw [this]
 have R : roadref2_token (mkB r) = if m > 0 then some (T_roadref2_Tok.mk 0 (ByteArray.mk #[]) 0, -1) else some (T_roadref2_Tok.mk 4 (mkB (r.take n)) 0, (n : Int)) := by
   unfold roadref2_token
   have g0 : gb (mkB r) 0 = some ((l[i].toNat : Nat) : Int) := by rw [hrc, gb_0]
   rw [g0, Option.bind_some, if_neg (by omega), if_pos (by decide +kernel)]
   show Option.bind (roadref2_run (mkB r) (ByteArray.extract inner63 (Int.toNat 52) (Int.toNat 62))) _ = _
   rw [ext62, run_val dg_has (by omega), Option.bind_some, hn, if_pos (by omega), mkB_size, if_pos ⟨by omega, by omega, by omega⟩]
   show Option.bind (roadref2_run (ByteArray.extract (mkB r) (Int.toNat (n : Int)) (Int.toNat ((mkB r).size : Int))) inner63) _ = _
   rw [ext_to, run_val inn_has (by rw [List.length_drop]; omega), Option.bind_some, hd, hm]
   by_cases c : m > 0
   · rw [if_pos (by omega), if_pos c]
   · rw [if_neg (by omega), if_neg c, if_pos ⟨by omega, by omega, by omega⟩, ext_0]
 rw [P, R]
 by_cases c : m > 0
 · rw [if_pos c, decide_eq_false (by omega)]
   exact Ag.no (m := -1) (by decide)
 · rw [if_neg c, decide_eq_true (by omega)]
   exact Ag.yes (by omega) (by omega) rfl rfl rfl
end
def hvN (b : UInt8) : Nat := if dgB b = true then b.toNat - 48 else b.toNat - 87
theorem hv_le {b : UInt8} (h : hxB b = true) : hvN b ≤ 15 := byte_all (p := fun b => hxB b = true → hvN b ≤ 15) (by decide +kernel) b h
theorem hex_val (b : UInt8) : token_hex ((b.toNat : Nat) : Int) = some (if hxB b = true then (((hvN b : Nat) : Int), true) else (0, false)) := by
 have f : (dgB b = true → IntKind.wrap .u8 (((b.toNat : Nat) : Int) - 48) = ((hvN b : Nat) : Int)) ∧ (97 ≤ b.toNat ∧ b.toNat ≤ 102 → dgB b = false ∧ IntKind.wrap .u8 (IntKind.wrap .u8 (((b.toNat : Nat) : Int) - 97) + 10) = ((hvN b : Nat) : Int)) :=
   byte_all (p := fun b => (dgB b = true → IntKind.wrap .u8 (((b.toNat : Nat) : Int) - 48) = ((hvN b : Nat) : Int)) ∧ (97 ≤ b.toNat ∧ b.toNat ≤ 102 → dgB b = false ∧ IntKind.wrap .u8 (IntKind.wrap .u8 (((b.toNat : Nat) : Int) - 97) + 10) = ((hvN b : Nat) : Int))) (by decide +kernel) b
 unfold token_hex hxB
 rw [digit_val, Option.bind_some]
 cases d : dgB b with
 | true => rw [if_pos rfl, f.1 d]; rfl
 | false =>
   rw [if_neg (by decide), Bool.false_or]
   unfold token_hex.j0
   by_cases a : 97 ≤ b.toNat
   · rw [if_pos (by omega), decide_eq_true a, Bool.true_and]
     by_cases c : b.toNat ≤ 102
     · rw [if_pos (by rw [decide_eq_true_iff]; omega), decide_eq_true c, (f.2 ⟨a, c⟩).2]; rfl
     · rw [if_neg (by rw [decide_eq_true_iff]; omega), decide_eq_false c]; rfl
   · rw [if_neg (by omega), if_neg (by decide), decide_eq_false a]; rfl
theorem lower_val {b : UInt8} (h : 97 ≤ b.toNat ∧ b.toNat ≤ 102) : internal_strconv_lower ((b.toNat : Nat) : Int) = some ((b.toNat : Nat) : Int) := by
 unfold internal_strconv_lower
 exact congrArg some (byte_all (p := fun b => (97 ≤ b.toNat ∧ b.toNat ≤ 102) → bitsI .or .u8 ((b.toNat : Nat) : Int) 32 = ((b.toNat : Nat) : Int)) (by decide +kernel) b h)
theorem sixteen : ∀ v d : Fin 16, IntKind.wrap .u64 (IntKind.wrap .u64 ((v.1 : Int) * IntKind.wrap .u64 16) + IntKind.wrap .u64 (d.1 : Int)) = ((16 * v.1 + d.1 : Nat) : Int) ∧ IntKind.wrap .u64 ((v.1 : Int) * IntKind.wrap .u64 16) = ((16 * v.1 : Nat) : Int) ∧ bitsI .or .u8 (shlI .u8 (v.1 : Int) 4) (d.1 : Int) = ((16 * v.1 + d.1 : Nat) : Int) := by decide +kernel
theorem pu_j10 {s9 : ByteArray} {v d : Nat} (hv : v ≤ 15) (hd : d ≤ 15) {a : List Int} {i : Nat} (hi : i < a.length) (hn : a.length ≤ 10) : internal_strconv_ParseUint.j10 16 false s9 1152921504606846976 255 false (v : Int) (d : Int) a (a.length : Int) (i : Int) = internal_strconv_ParseUint.l0 16 false s9 1152921504606846976 255 false ((16 * v + d : Nat) : Int) a (a.length : Int) ((i + 1 : Nat) : Int) := by
 have f := sixteen ⟨v, by omega⟩ ⟨d, by omega⟩
 simp only at f
 have w16 : IntKind.wrap .u8 16 = 16 := by decide +kernel
 rw [internal_strconv_ParseUint.j10_eq, w16, if_neg (by omega), if_neg (by omega), f.1, f.2.1, if_neg (by omega), internal_strconv_ParseUint.j14_eq, if_neg (by rw [decide_eq_true_iff]; omega), w_succ (by omega)]
theorem pu_step {s9 : ByteArray} {b : UInt8} (hx : hxB b = true) {v : Nat} (hv : v ≤ 15) {a : List Int} {i : Nat} (hi : i < a.length) (hn : a.length ≤ 10) (ha : a[i] = ((b.toNat : Nat) : Int)) : internal_strconv_ParseUint.l0 16 false s9 1152921504606846976 255 false (v : Int) a (a.length : Int) (i : Int) = internal_strconv_ParseUint.l0 16 false s9 1152921504606846976 255 false ((16 * v + hvN b : Nat) : Int) a (a.length : Int) ((i + 1 : Nat) : Int) := by
 have f : (dgB b = true → IntKind.wrap .u8 (((b.toNat : Nat) : Int) - 48) = ((hvN b : Nat) : Int)) ∧ (97 ≤ b.toNat ∧ b.toNat ≤ 102 → dgB b = false ∧ IntKind.wrap .u8 (IntKind.wrap .u8 (((b.toNat : Nat) : Int) - 97) + 10) = ((hvN b : Nat) : Int)) :=
   byte_all (p := fun b => (dgB b = true → IntKind.wrap .u8 (((b.toNat : Nat) : Int) - 48) = ((hvN b : Nat) : Int)) ∧ (97 ≤ b.toNat ∧ b.toNat ≤ 102 → dgB b = false ∧ IntKind.wrap .u8 (IntKind.wrap .u8 (((b.toNat : Nat) : Int) - 97) + 10) = ((hvN b : Nat) : Int))) (by decide +kernel) b
 have hle := hv_le hx
 rw [internal_strconv_ParseUint.l0_eq, if_pos (by omega), gi_at hi, Option.bind_some, ha]
 have g : (if ((b.toNat : Nat) : Int) = 95 then internal_strconv_ParseUint.j11 16 false s9 1152921504606846976 255 false (v : Int) ((b.toNat : Nat) : Int) a (a.length : Int) (i : Int) false else internal_strconv_ParseUint.j11 16 false s9 1152921504606846976 255 false (v : Int) ((b.toNat : Nat) : Int) a (a.length : Int) (i : Int) false) = internal_strconv_ParseUint.j11 16 false s9 1152921504606846976 255 false (v : Int) ((b.toNat : Nat) : Int) a (a.length : Int) (i : Int) false := by split <;> rfl
 rw [g, internal_strconv_ParseUint.j11_eq, if_neg (by decide)]
 unfold hxB at hx
 cases d : dgB b with
 | true =>
   have d' := d
   unfold dgB at d'
   rw [Bool.and_eq_true, decide_eq_true_iff, decide_eq_true_iff] at d'
   rw [if_pos (by omega), internal_strconv_ParseUint.j12_eq, if_pos (by rw [decide_eq_true_iff]; omega), f.1 d, pu_j10 hv hle hi hn]
 | false =>
   rw [d, Bool.false_or, Bool.and_eq_true, decide_eq_true_iff, decide_eq_true_iff] at hx
   rw [if_pos (by omega), internal_strconv_ParseUint.j12_eq, if_neg (by rw [decide_eq_true_iff]; omega), lower_val hx, Option.bind_some, if_pos (by omega), Option.bind_some, internal_strconv_ParseUint.j13_eq, if_pos (by rw [decide_eq_true_iff]; omega), lower_val hx, Option.bind_some, (f.2 hx).2, pu_j10 hv hle hi hn]
theorem pu_val {b c : UInt8} (hb : hxB b = true) (hc : hxB c = true) : strconv_ParseUint (mkB [b, c]) 16 8 = some (((16 * hvN b + hvN c : Nat) : Int), ()) := by
 have hle := hv_le hb
 unfold strconv_ParseUint internal_strconv_ParseUint
 rw [if_neg (fun h => by cases mkB_inj h), if_pos (by decide)]
 unfold internal_strconv_ParseUint.j2
 rw [if_pos (by decide)]
 unfold internal_strconv_ParseUint.j0
 rw [if_neg (by decide), if_neg (by decide)]
 unfold internal_strconv_ParseUint.j4
 rw [if_neg (by decide)]
 unfold internal_strconv_ParseUint.j1
 rw [if_neg (by decide), if_pos rfl]
 unfold internal_strconv_ParseUint.j3
 have e1 : (0 : Int) ≤ IntKind.wrap .u64 8 := by decide +kernel
 have e2 : IntKind.wrap .u64 (shlI .u64 1 (IntKind.wrap .u64 8) - 1) = 255 := by decide +kernel
 have e3 : bytesI (mkB [b, c]) = [((b.toNat : Nat) : Int), ((c.toNat : Nat) : Int)] := rfl
 have e4 : ((16 : Int) == 0) = false := by decide
 rw [if_pos e1, e2, e3, e4]
 have s1 := pu_step (s9 := mkB [b, c]) hb (v := 0) (by omega) (a := [((b.toNat : Nat) : Int), ((c.toNat : Nat) : Int)]) (i := 0) (by simp) (by simp) rfl
 have s2 := pu_step (s9 := mkB [b, c]) hc (v := hvN b) hle (a := [((b.toNat : Nat) : Int), ((c.toNat : Nat) : Int)]) (i := 1) (by simp) (by simp) rfl
 rw [Nat.mul_zero, Nat.zero_add] at s1
 have s3 : internal_strconv_ParseUint.l0 16 false (mkB [b, c]) 1152921504606846976 255 false ((16 * hvN b + hvN c : Nat) : Int) [((b.toNat : Nat) : Int), ((c.toNat : Nat) : Int)] (([((b.toNat : Nat) : Int), ((c.toNat : Nat) : Int)].length : Nat) : Int) ((1 + 1 : Nat) : Int) = some (((16 * hvN b + hvN c : Nat) : Int), ()) := by
   rw [internal_strconv_ParseUint.l0_eq, if_neg (by simp), if_neg (by decide)]
   unfold internal_strconv_ParseUint.j6 internal_strconv_ParseUint.j5
   rw [if_neg (by decide)]
 have s := s1.trans (s2.trans s3)
 exact (congrArg (fun o : Option (Int × Unit) => Option.bind o fun y1 => some (y1.1, ())) s).trans rfl
theorem prefix_val {q t : List UInt8} (hq : q.length ≤ 100000) : strings_HasPrefix (mkB q) (mkB t) = some (decide (q.take t.length = t)) := by
 unfold strings_HasPrefix internal_stringslite_HasPrefix
 rw [mkB_size, mkB_size]
 by_cases h : t.length ≤ q.length
 · rw [if_pos (by omega), if_pos ⟨by omega, by omega, by omega⟩, ext_0, Option.bind_some, mkB_dec]
 · rw [if_neg (by omega), Option.bind_some, decide_eq_false (fun e => by
     have := congrArg List.length e
     rw [List.length_take] at this
     omega)]
def aI (acc : List UInt8) : List Int := acc.map fun b => ((b.toNat : Nat) : Int)
theorem aI_bytes (acc : List UInt8) : bytesOf (aI acc) = mkB acc := by
 unfold bytesOf aI mkB
 congr 1
 rw [List.map_map]
 have : ((fun n : Int => UInt8.ofNat n.toNat) ∘ fun b : UInt8 => ((b.toNat : Nat) : Int)) = id := by
   funext b; simp
 rw [this, List.map_id]
theorem aI_app (acc : List UInt8) (b : UInt8) : ap 1 (aI acc) [((b.toNat : Nat) : Int)] = if acc.length + 1 ≤ 140737488355328 then some (aI (acc ++ [b])) else none := by
 unfold ap aI
 simp
theorem aI_ap {acc : List UInt8} (b : UInt8) (h : acc.length ≤ 100000) : ap 1 (aI acc) [((b.toNat : Nat) : Int)] = some (aI (acc ++ [b])) := by
 rw [aI_app, if_pos (by omega)]
def Tg (n i p : Nat) (o : Option (ByteArray × Int × Bool)) (q : Option (ByteArray × Int)) : Prop :=
 ∃ t x ok u m, o = some (t, x, ok) ∧ q = some (u, m) ∧ (ok = true → ∃ j : Nat, p < j ∧ i + j ≤ n ∧ m = (j : Int) ∧ x = ((i + j : Nat) : Int) ∧ u = t) ∧ (ok = false → m < 0)
theorem Tg.no {n i p : Nat} {t u : ByteArray} {x : Int} : Tg n i p (some (t, x, false)) (some (u, -1)) := ⟨_, _, _, _, _, rfl, rfl, fun h => (by cases h), fun _ => by decide⟩
theorem Tg.more {n i p p' : Nat} {o : Option (ByteArray × Int × Bool)} {q : Option (ByteArray × Int)} (h : Tg n i p' o q) (hp : p ≤ p') : Tg n i p o q := by
 obtain ⟨t, x, ok, u, m, h1, h2, h3, h4⟩ := h
 exact ⟨t, x, ok, u, m, h1, h2, fun e => by obtain ⟨j, j1, r⟩ := h3 e; exact ⟨j, by omega, r⟩, h4⟩
theorem of_toNat {b : UInt8} {n : Nat} (h : b.toNat = n) (hn : n < 256) : b = UInt8.ofNat n := by
 rw [← h]; simp
theorem quote_ag {l : List UInt8} (hl : l.length ≤ 4000) {i : Nat} (hi : i < l.length) : ∀ (d p : Nat) (acc : List UInt8), l.length - (i + p) ≤ d → i + p ≤ l.length → acc.length ≤ p → Tg l.length i p (token_text.l0 (mkB l) ((i + p : Nat) : Int) (aI acc)) (roadref2_meant.l0 (mkB (l.drop i)) (mkB acc) (p : Int)) := by
 intro d
 have hrl : (l.drop i).length = l.length - i := List.length_drop
 have sl : (mkB l).size = l.length := rfl
 have sr : (mkB (l.drop i)).size = l.length - i := hrl
 have stop : ∀ (p : Nat) (acc : List UInt8), ¬ i + p < l.length → Tg l.length i p (token_text.l0 (mkB l) ((i + p : Nat) : Int) (aI acc)) (roadref2_meant.l0 (mkB (l.drop i)) (mkB acc) (p : Int)) := fun p acc h => by
   have T : token_text.l0 (mkB l) ((i + p : Nat) : Int) (aI acc) = some (ByteArray.mk #[], ((l.length : Nat) : Int), false) := by rw [token_text.l0_eq, sl, if_neg (by omega)]
   have M : roadref2_meant.l0 (mkB (l.drop i)) (mkB acc) (p : Int) = some (ByteArray.mk #[], -1) := by
     rw [roadref2_meant.l0_eq, sr, if_neg (by omega)]
     unfold roadref2_meant.j0
     rw [sr, if_pos (by omega)]
     unfold roadref2_meant.j2
     rw [if_pos rfl]
   rw [T, M]; exact Tg.no
 induction d with
 | zero => intro p acc hd hp ha; exact stop p acc (by omega)
 | succ d ih =>
   intro p acc hd hp ha
   by_cases h : i + p < l.length
   · have hpr : p < (l.drop i).length := by omega
     have gr : gb (mkB (l.drop i)) (p : Int) = some ((l[i + p].toNat : Nat) : Int) := by rw [gb_at hpr, List.getElem_drop]
     have e1 : IntKind.wrap .i64 (((i + p : Nat) : Int) + 1) = ((i + (p + 1) : Nat) : Int) := by rw [wrap_in (by omega) (by omega)]; omega
     have e2 : IntKind.wrap .i64 (((i + p : Nat) : Int) + 2) = ((i + (p + 2) : Nat) : Int) := by rw [wrap_in (by omega) (by omega)]; omega
     have e3 : IntKind.wrap .i64 (((i + p : Nat) : Int) + 3) = ((i + (p + 3) : Nat) : Int) := by rw [wrap_in (by omega) (by omega)]; omega
     have f1 : IntKind.wrap .i64 ((p : Int) + 1) = ((p + 1 : Nat) : Int) := by rw [wrap_in (by omega) (by omega)]; omega
     have f2 : IntKind.wrap .i64 ((p : Int) + 2) = ((p + 2 : Nat) : Int) := by rw [wrap_in (by omega) (by omega)]; omega
     have f4 : IntKind.wrap .i64 ((p : Int) + 4) = ((p + 4 : Nat) : Int) := by rw [wrap_in (by omega) (by omega)]; omega
     have nxt : ∀ (k : Nat) (b : UInt8), 1 ≤ k → i + (p + k) ≤ l.length → Tg l.length i p (token_text.l0 (mkB l) ((i + (p + k) : Nat) : Int) (aI (acc ++ [b]))) (roadref2_meant.l0 (mkB (l.drop i)) (mkB (acc ++ [b])) ((p + k : Nat) : Int)) := fun k b hk hle =>
       (ih (p + k) (acc ++ [b]) (by omega) hle (by rw [List.length_append, List.length_singleton]; omega)).more (by omega)
     have sz1 : ∀ b : UInt8, (mkB acc).size + (mkB [b]).size ≤ 9223372036854775807 := fun b => by rw [mkB_size, mkB_size, List.length_singleton]; omega
     have T0 := token_text.l0_eq (mkB l) ((i + p : Nat) : Int) (aI acc)
     rw [sl, if_pos (by omega), gb_at h, Option.bind_some] at T0
     have M0 := roadref2_meant.l0_eq (mkB (l.drop i)) (mkB acc) (p : Int)
     rw [sr, if_pos (by omega), gr, Option.bind_some] at M0
     by_cases c34 : l[i + p].toNat = 34
     · rw [if_pos (by omega), aI_bytes, e1] at T0
       rw [if_pos (by omega)] at M0
       unfold roadref2_meant.j0 at M0
       rw [sr, mkB_size, if_neg (by omega)] at M0
       unfold roadref2_meant.j2 roadref2_meant.j1 at M0
       rw [f1] at M0
       have el : ((aI acc).length : Int) = (acc.length : Int) := by unfold aI; rw [List.length_map]
       rw [el] at T0
       by_cases g : acc.length ≤ 64
       · rw [decide_eq_true (show (acc.length : Int) ≤ 64 by omega)] at T0
         rw [decide_eq_false (show ¬ (acc.length : Int) > 64 by omega), if_neg (by decide)] at M0
         rw [T0, M0]
         exact ⟨_, _, _, _, _, rfl, rfl, fun _ => ⟨p + 1, by omega, by omega, rfl, rfl, rfl⟩, fun h => by cases h⟩
       · rw [decide_eq_false (show ¬ (acc.length : Int) ≤ 64 by omega)] at T0
         rw [decide_eq_true (show (acc.length : Int) > 64 by omega), if_pos rfl] at M0
         rw [T0, M0]; exact Tg.no
     rw [if_neg (by omega)] at T0
     rw [if_neg (by omega), roadref2_meant.j3_eq, gr, Option.bind_some] at M0
     by_cases c32 : l[i + p].toNat < 32
     · rw [if_pos (by omega)] at T0
       rw [if_pos (by omega)] at M0
       rw [T0, M0]; exact Tg.no
     rw [if_neg (by omega)] at T0
     rw [if_neg (by omega), Option.bind_some] at M0
     by_cases c92 : l[i + p].toNat = 92
     · rw [if_pos (by omega), e1] at T0
       rw [if_pos (by omega), f1, sr, if_pos ⟨by omega, by omega, by omega⟩] at M0
       -- what stands behind
       generalize hq : l.drop (i + (p + 1)) = q
       have hql : q.length = l.length - (i + (p + 1)) := by rw [← hq, List.length_drop]
       have er : ByteArray.extract (mkB (l.drop i)) (Int.toNat ((p + 1 : Nat) : Int)) (Int.toNat ((l.length - i : Nat) : Int)) = mkB q := by
         have := ext_to (l.drop i) (p + 1)
         rw [mkB_size, hrl, List.drop_drop] at this
         rw [this, ← hq]
       have p110 : strings_HasPrefix (mkB q) (ByteArray.mk #[110]) = some (decide (q.take 1 = [110])) := prefix_val (t := [110]) (by omega)
       have p34 : strings_HasPrefix (mkB q) (ByteArray.mk #[34]) = some (decide (q.take 1 = [34])) := prefix_val (t := [34]) (by omega)
       have p92 : strings_HasPrefix (mkB q) (ByteArray.mk #[92]) = some (decide (q.take 1 = [92])) := prefix_val (t := [92]) (by omega)
       rw [er, p110, p34, p92] at M0
       simp only [Option.bind_some] at M0
       rw [f2] at M0
       have J4 : q.take 1 ≠ [34] → q.take 1 ≠ [92] → q.take 1 ≠ [110] → roadref2_meant.l0 (mkB (l.drop i)) (mkB acc) (p : Int) = roadref2_meant.j4 (mkB (l.drop i)) (mkB acc) (p : Int) (mkB q) false := fun a1 a2 a3 => by
         rw [M0, decide_eq_false a3, if_neg (by decide), decide_eq_false a1, if_neg (by decide), decide_eq_false a2]
       by_cases h2 : i + (p + 1) < l.length
       · rw [if_neg (by omega), gb_at h2, Option.bind_some] at T0
         have qc : q = l[i + (p + 1)] :: l.drop (i + (p + 2)) := by rw [← hq, drop_cons h2]; rfl
         have q1 : q.take 1 = [l[i + (p + 1)]] := by rw [qc]; rfl
         by_cases d110 : l[i + (p + 1)].toNat = 110
         · have b : l[i + (p + 1)] = 110 := of_toNat d110 (by decide)
           rw [if_pos (by omega)] at T0
           have ea : ap 1 (aI acc) [(10 : Int)] = some (aI (acc ++ [10])) := aI_ap 10 (by omega)
           rw [ea, Option.bind_some, token_text.j0_eq, e2] at T0
           rw [q1, b, decide_eq_true rfl, if_pos rfl] at M0
           have sz := sz1 10
           rw [if_pos (show ByteArray.size (mkB acc) + ByteArray.size (ByteArray.mk #[10]) ≤ 9223372036854775807 from sz)] at M0
           rw [T0, M0]
           have := nxt 2 10 (by omega) (by omega)
           rw [← mkB_app] at this
           exact this
         rw [if_neg (by omega)] at T0
         have n110 : q.take 1 ≠ [110] := by rw [q1]; intro e; rw [(List.cons.inj e).1] at d110; exact d110 rfl
         have J1 : ∀ c : Bool, c = true → token_text.j1 (mkB l) ((i + p : Nat) : Int) (aI acc) ((l[i + (p + 1)].toNat : Nat) : Int) c = token_text.l0 (mkB l) ((i + (p + 2) : Nat) : Int) (aI (acc ++ [l[i + (p + 1)]])) := fun c hc => by
           rw [token_text.j1_eq, if_pos hc, e1, gb_at h2, Option.bind_some, aI_ap _ (by omega), Option.bind_some, token_text.j0_eq, e2]
         have K1 : roadref2_meant.j4 (mkB (l.drop i)) (mkB acc) (p : Int) (mkB q) true = roadref2_meant.l0 (mkB (l.drop i)) (mkB (acc ++ [l[i + (p + 1)]])) ((p + 2 : Nat) : Int) := by
           have ex : ByteArray.extract (mkB q) (Int.toNat 0) (Int.toNat 1) = mkB [l[i + (p + 1)]] := by
             have := ext_0 q 1
             rw [q1] at this
             exact this
           rw [roadref2_meant.j4_eq, if_pos rfl, mkB_size, if_pos ⟨by omega, by omega, by omega⟩, ex, if_pos (sz1 _), mkB_app, f2]
         by_cases d34 : l[i + (p + 1)].toNat = 34
         · have b : l[i + (p + 1)] = 34 := of_toNat d34 (by decide)
           rw [if_pos (by omega), J1 _ (by rw [beq_iff_eq]; omega)] at T0
           rw [decide_eq_false n110, if_neg (by decide), decide_eq_true (show q.take 1 = [34] by rw [q1, b]), if_pos rfl, K1] at M0
           rw [T0, M0]; exact nxt 2 _ (by omega) (by omega)
         rw [if_neg (by omega)] at T0
         have n34 : q.take 1 ≠ [34] := by rw [q1]; intro e; rw [(List.cons.inj e).1] at d34; exact d34 rfl
         by_cases d92 : l[i + (p + 1)].toNat = 92
         · have b : l[i + (p + 1)] = 92 := of_toNat d92 (by decide)
           rw [J1 _ (by rw [beq_iff_eq]; omega)] at T0
           rw [decide_eq_false n110, if_neg (by decide), decide_eq_false n34, if_neg (by decide), decide_eq_true (show q.take 1 = [92] by rw [q1, b]), K1] at M0
           rw [T0, M0]; exact nxt 2 _ (by omega) (by omega)
         have n92 : q.take 1 ≠ [92] := by rw [q1]; intro e; rw [(List.cons.inj e).1] at d92; exact d92 rfl
         have b92 : ((((l[i + (p + 1)].toNat : Nat) : Int)) == 92) = false := by rw [beq_eq_false_iff_ne]; omega
         rw [b92, token_text.j1_eq, if_neg (by decide)] at T0
         have M1 := J4 n34 n92 n110
         rw [roadref2_meant.j4_eq, if_neg (by decide), mkB_size] at M1
         have no5 : roadref2_meant.j5 (mkB (l.drop i)) (mkB acc) (p : Int) (mkB q) false = some (ByteArray.mk #[], -1) := by rw [roadref2_meant.j5_eq, if_neg (by decide)]
         have gq : gb (mkB q) 0 = some ((l[i + (p + 1)].toNat : Nat) : Int) := by rw [qc, gb_0]
         by_cases d120 : l[i + (p + 1)].toNat = 120
         · rw [if_pos (by omega), e3, e2, sl] at T0
           by_cases h4 : i + (p + 3) < l.length
           · rw [if_neg (by omega), gb_at (show i + (p + 2) < l.length by omega), Option.bind_some, hex_val, Option.bind_some, gb_at h4, Option.bind_some, hex_val, Option.bind_some] at T0
             rw [if_pos (by omega), gq, Option.bind_some, if_pos (by omega), if_pos ⟨by omega, by omega, by omega⟩] at M1
             have q3 : (q.take 3).drop 1 = [l[i + (p + 2)], l[i + (p + 3)]] := by
               rw [qc, drop_cons (show i + (p + 2) < l.length by omega), show i + (p + 2) + 1 = i + (p + 3) by omega, drop_cons h4]; rfl
             have ex : ByteArray.extract (mkB q) (Int.toNat 1) (Int.toNat 3) = mkB [l[i + (p + 2)], l[i + (p + 3)]] := by
               have := ext_mk q 1 3
               rw [q3] at this
               exact this
             rw [ex, run_val hx_has (by simp), Option.bind_some] at M1
             generalize l[i + (p + 2)] = u at T0 M1 ex
             generalize l[i + (p + 3)] = v at T0 M1 ex
             cases hu : hxB u with
             | false =>
               rw [tw_f hu] at M1
               rw [show ((((0 : Nat) : Int)) == 2) = false by decide, no5] at M1
               rw [hu] at T0
               simp only [Bool.false_eq_true, ↓reduceIte] at T0
               rw [token_text.j3_eq, if_pos rfl] at T0
               rw [T0, M1]; exact Tg.no
             | true =>
               cases hv : hxB v with
               | false =>
                 rw [tw_t hu, tw_f hv] at M1
                 rw [show ((((0 + 1 : Nat) : Int)) == 2) = false by decide, no5] at M1
                 rw [hu, hv] at T0
                 simp only [Bool.false_eq_true, ↓reduceIte, Bool.not_false] at T0
                 rw [token_text.j3_eq, if_pos rfl] at T0
                 rw [T0, M1]; exact Tg.no
               | true =>
                 rw [tw_t hu, tw_t hv, tw_nil] at M1
                 rw [show ((((0 + 1 + 1 : Nat) : Int)) == 2) = true by decide, roadref2_meant.j5_eq, if_pos rfl, mkB_size, if_pos ⟨by omega, by omega, by omega⟩, ex, pu_val hu hv, Option.bind_some] at M1
                 rw [hu, hv] at T0
                 simp only [↓reduceIte, Bool.not_true] at T0
                 have lu := hv_le hu
                 have lv := hv_le hv
                 have s16 := (sixteen ⟨hvN u, by omega⟩ ⟨hvN v, by omega⟩).2.2
                 simp only at s16
                 rw [token_text.j3_eq, if_neg (by decide), token_text.j2_eq, s16] at T0
                 have hb : (UInt8.ofNat (16 * hvN u + hvN v)).toNat = 16 * hvN u + hvN v := by simp; omega
                 generalize hw : UInt8.ofNat (16 * hvN u + hvN v) = w at hb
                 rw [← hb, aI_ap _ (by omega), Option.bind_some, token_text.j0_eq, e2] at T0
                 have e22 : IntKind.wrap .i64 (((i + (p + 2) : Nat) : Int) + 2) = ((i + (p + 4) : Nat) : Int) := by rw [wrap_in (by omega) (by omega)]; omega
                 rw [e22] at T0
                 have eb : bytesOf ([IntKind.wrap .u8 ((16 * hvN u + hvN v : Nat) : Int)] : List Int) = mkB [w] := by
                   rw [← hb]
                   have : IntKind.wrap .u8 ((w.toNat : Nat) : Int) = ((w.toNat : Nat) : Int) := byte_all (p := fun w => IntKind.wrap .u8 ((w.toNat : Nat) : Int) = ((w.toNat : Nat) : Int)) (by decide +kernel) w
                   rw [this]
                   exact aI_bytes [w]
                 simp only at M1
                 rw [eb, if_pos (sz1 _), mkB_app, f4] at M1
                 rw [T0, M1]
                 exact nxt 4 _ (by omega) (by omega)
           · rw [if_pos (by omega)] at T0
             rw [if_neg (by omega), no5] at M1
             rw [T0, M1]; exact Tg.no
         · rw [if_neg (by omega)] at T0
           have M2 : roadref2_meant.l0 (mkB (l.drop i)) (mkB acc) (p : Int) = some (ByteArray.mk #[], -1) := by
             rw [M1, gq, Option.bind_some, if_neg (show ¬ ((l[i + (p + 1)].toNat : Nat) : Int) = 120 by omega), no5]
             split <;> rfl
           rw [T0, M2]; exact Tg.no
       · have q0 : q = [] := by rw [← List.length_eq_zero_iff]; omega
         rw [if_pos (by omega)] at T0
         have M1 := J4 (by rw [q0]; decide) (by rw [q0]; decide) (by rw [q0]; decide)
         rw [roadref2_meant.j4_eq, if_neg (by decide), mkB_size, if_neg (by omega), roadref2_meant.j5_eq, if_neg (by decide)] at M1
         rw [T0, M1]; exact Tg.no
     · rw [if_neg (by omega), aI_ap _ (by omega), Option.bind_some, e1] at T0
       have ex : ByteArray.extract (mkB (l.drop i)) (Int.toNat (p : Int)) (Int.toNat ((p + 1 : Nat) : Int)) = mkB [l[i + p]] := by
         rw [ext_in, List.drop_drop, drop_cons h]; rfl
       rw [if_neg (by omega), f1, sr, if_pos ⟨by omega, by omega, by omega⟩, ex, if_pos (sz1 _), mkB_app] at M0
       rw [T0, M0]
       exact nxt 1 _ (by omega) (by omega)
   · exact stop p acc h
theorem text_ag {l : List UInt8} (hl : l.length ≤ 4000) {i : Nat} (h : i < l.length) (hq : l[i].toNat = 34) : Ag l.length i (token_next (mkB l) (i : Int)) (roadref2_token (mkB (l.drop i))) := by
 have nl : loB l[i] = false := by unfold loB; rw [decide_eq_false (by omega)]; rfl
 have nu : upB l[i] = false := by unfold upB; rw [decide_eq_false (by omega)]; rfl
 have nd : dgB l[i] = false := by unfold dgB; rw [decide_eq_false (by omega)]; rfl
 have e1 : IntKind.wrap .i64 ((i : Int) + 1) = ((i + 1 : Nat) : Int) := by rw [wrap_in (by omega) (by omega)]; omega
 obtain ⟨t, x, ok, u, m, h1, h2, h3, h4⟩ := quote_ag hl h l.length 1 [] (by omega) (by omega) (by simp)
 have T : token_next (mkB l) (i : Int) = some (T_token_Token.mk 5 t (i : Int), x, ok) := by
   unfold token_next
   rw [gb_at h, Option.bind_some, low_val, Option.bind_some, nl, if_neg (by decide), great_val, Option.bind_some, nu]
   unfold token_next.j1
   rw [if_neg (by decide), digit_val, Option.bind_some, nd, if_neg (by decide), if_pos (by omega)]
   unfold token_text
   rw [e1]
   have h1' : token_text.l0 (mkB l) ((i + 1 : Nat) : Int) ([] : List Int) = some (t, x, ok) := h1
   rw [h1', Option.bind_some]
 have R : roadref2_token (mkB (l.drop i)) = some (T_roadref2_Tok.mk 5 u 0, m) := by
   unfold roadref2_token
   have g0 : gb (mkB (l.drop i)) 0 = some ((l[i].toNat : Nat) : Int) := by rw [drop_cons h, gb_0]
   rw [g0, Option.bind_some, if_pos (by omega)]
   unfold roadref2_meant
   have h2' : roadref2_meant.l0 (mkB (l.drop i)) (ByteArray.mk #[]) 1 = some (u, m) := h2
   rw [h2', Option.bind_some]
 rw [T, R]
 refine ⟨_, _, _, _, _, rfl, rfl, fun e => ?_, h4⟩
 obtain ⟨j, j1, j2, j3, j4, j5⟩ := h3 e
 exact ⟨j, by omega, j2, j3, j4, rfl, j5, rfl⟩
def sg2 : List (List UInt8) := [[61, 62], [45, 62]]
def sg1 : List UInt8 := [40, 41, 91, 93, 123, 125, 44, 59, 58, 61, 43, 45, 42, 47, 37, 60, 94, 124, 95]
def SG : List (List UInt8) := sg2 ++ sg1.map fun b => [b]
theorem sg_val : strings_Fields (ByteArray.mk #[61, 62, 32, 45, 62, 32, 40, 32, 41, 32, 91, 32, 93, 32, 123, 32, 125, 32, 44, 32, 59, 32, 58, 32, 61, 32, 43, 32, 45, 32, 42, 32, 47, 32, 37, 32, 60, 32, 94, 32, 124, 32, 95]) = some (SG.map mkB) := by
 unfold strings_Fields
 rw [if_pos ⟨by decide +kernel, by decide +kernel⟩]
 exact congrArg some (by kernel_rfl)
def sgn (r : List UInt8) : Option (List UInt8) := SG.find? fun x => decide (r.take x.length = x)
theorem find_loop {α β : Type} {L : List α} {F : Int → β} {p : α → Bool} {g : α → β} {E : β} (step : ∀ (i : Nat) (hi : i < L.length), F (i : Int) = if p L[i] = true then g L[i] else F ((i + 1 : Nat) : Int)) (e : F (L.length : Int) = E) : F 0 = match L.find? p with
   | some x => g x
   | none => E := by
 have key : ∀ (d i : Nat), L.length - i = d → i ≤ L.length → F (i : Int) = match (L.drop i).find? p with
   | some x => g x
   | none => E := by
   intro d
   induction d with
   | zero =>
     intro i hd hi
     obtain rfl : i = L.length := by omega
     rw [List.drop_length, e]; rfl
   | succ d ih =>
     intro i hd hi
     have h : i < L.length := by omega
     rw [step i h, List.drop_eq_getElem_cons h]
     cases c : p L[i] with
     | true => rw [if_pos rfl, List.find?_cons_of_pos c]
     | false => rw [if_neg (by decide), List.find?_cons_of_neg (by rw [c]; decide), ih (i + 1) (by omega) h]
 have := key L.length 0 (by omega) (by omega)
 rw [List.drop_zero] at this
 exact this
theorem tok_l0 {r : List UInt8} (hr : r.length ≤ 4000) (y : Rk) (S : List (List UInt8)) (hS : S.length ≤ 100) : roadref2_token.l0 (mkB r) y (S.map mkB) ((S.map mkB).length : Int) 0 = match S.find? fun x => decide (r.take x.length = x) with
   | some x => some (T_roadref2_Tok.mk 6 (mkB x) 0, ((x.length : Nat) : Int))
   | none => some (T_roadref2_Tok.mk 0 (ByteArray.mk #[]) 0, -1) := by
 refine (find_loop (L := S) (E := some (T_roadref2_Tok.mk 0 (ByteArray.mk #[]) 0, -1)) (F := fun i => roadref2_token.l0 (mkB r) y (S.map mkB) ((S.map mkB).length : Int) i) (p := fun x => decide (r.take x.length = x)) (g := fun x => some (T_roadref2_Tok.mk 6 (mkB x) 0, ((x.length : Nat) : Int))) (fun i h => ?_) ?_).trans (by cases S.find? (fun x => decide (r.take x.length = x)) <;> rfl)
 · have hm : i < (S.map mkB).length := by rw [List.length_map]; exact h
   have hg : (S.map mkB)[i] = mkB S[i] := by simp
   show roadref2_token.l0 _ _ _ _ _ = _
   rw [roadref2_token.l0_eq, if_pos (by rw [List.length_map]; omega), gi_at hm, Option.bind_some, hg, prefix_val (by omega), Option.bind_some, w_succ (by omega)]
   rfl
 · show roadref2_token.l0 _ _ _ _ _ = _
   rw [roadref2_token.l0_eq, if_neg (by rw [List.length_map]; omega)]
theorem tok_j0 {r : List UInt8} (hr : r.length ≤ 4000) (y : Rk) : roadref2_token.j0 (mkB r) y = match sgn r with
   | some x => some (T_roadref2_Tok.mk 6 (mkB x) 0, ((x.length : Nat) : Int))
   | none => some (T_roadref2_Tok.mk 0 (ByteArray.mk #[]) 0, -1) := by
 unfold roadref2_token.j0
 rw [sg_val, Option.bind_some]
 exact tok_l0 hr y SG (by decide)
theorem find_one (b : UInt8) (r : List UInt8) : ∀ q : List UInt8, (q.map fun x => [x]).find? (fun x => decide ((b :: r).take x.length = x)) = if b ∈ q then some [b] else none
 | [] => rfl
 | c :: q => by
   rw [List.map_cons, List.find?_cons]
   have e : ((b :: r).take [c].length = [c]) ↔ b = c := by simp
   by_cases h : b = c
   · subst h
     rw [decide_eq_true (e.2 rfl), if_pos (by simp)]
   · rw [decide_eq_false (fun x => h (e.1 x))]
     show List.find? _ (q.map fun x => [x]) = _
     rw [find_one b r q]
     by_cases m : b ∈ q
     · rw [if_pos m, if_pos (by simp [m])]
     · rw [if_neg m, if_neg (by simp [m, h])]
theorem sgn_val (b : UInt8) (r : List UInt8) : sgn (b :: r) = if (b :: r).take 2 = [61, 62] then some [61, 62] else if (b :: r).take 2 = [45, 62] then some [45, 62] else if b ∈ sg1 then some [b] else none := by
 unfold sgn SG sg2
 rw [List.cons_append, List.cons_append, List.nil_append, List.find?_cons, List.find?_cons, find_one]
 show (match decide ((b :: r).take 2 = [61, 62]) with | true => _ | false => match decide ((b :: r).take 2 = [45, 62]) with | true => _ | false => _) = _
 by_cases h1 : (b :: r).take 2 = [61, 62]
 · rw [decide_eq_true h1, if_pos h1]
 · rw [decide_eq_false h1, if_neg h1]
   by_cases h2 : (b :: r).take 2 = [45, 62]
   · rw [decide_eq_true h2, if_pos h2]
   · rw [decide_eq_false h2, if_neg h2]
section
variable {l : List UInt8} (hl : l.length ≤ 4000)
include hl
theorem sign_j0 {i : Nat} (h : i < l.length) : token_sign.j0 (mkB l) (i : Int) = some (if l[i] ∈ sg1 then mkB [l[i]] else mkB []) := by
 unfold token_sign.j0
 rw [gb_at h, Option.bind_some]
 have e1 : IntKind.wrap .i64 ((i : Int) + 1) = ((i + 1 : Nat) : Int) := w_succ (by omega)
 have J : ∀ c : Bool, token_sign.j2 (mkB l) (i : Int) c = some (if c = true then mkB [l[i]] else mkB []) := fun c => by
   unfold token_sign.j2
   cases c
   · rfl
   · rw [if_pos rfl, e1, mkB_size, if_pos ⟨by omega, by omega, by omega⟩, ext_in, drop_cons h]; rfl
 simp only [J]
 generalize l[i] = b
 have key : ∀ b : UInt8, (if ((b.toNat : Nat) : Int) = 40 then (((b.toNat : Nat) : Int) == 40) else if ((b.toNat : Nat) : Int) = 41 then (((b.toNat : Nat) : Int) == 41) else if ((b.toNat : Nat) : Int) = 91 then (((b.toNat : Nat) : Int) == 91) else if ((b.toNat : Nat) : Int) = 93 then (((b.toNat : Nat) : Int) == 93) else if ((b.toNat : Nat) : Int) = 123 then (((b.toNat : Nat) : Int) == 123) else if ((b.toNat : Nat) : Int) = 125 then (((b.toNat : Nat) : Int) == 125) else if ((b.toNat : Nat) : Int) = 44 then (((b.toNat : Nat) : Int) == 44) else if ((b.toNat : Nat) : Int) = 59 then (((b.toNat : Nat) : Int) == 59) else if ((b.toNat : Nat) : Int) = 58 then (((b.toNat : Nat) : Int) == 58) else if ((b.toNat : Nat) : Int) = 61 then (((b.toNat : Nat) : Int) == 61) else if ((b.toNat : Nat) : Int) = 43 then (((b.toNat : Nat) : Int) == 43) else if ((b.toNat : Nat) : Int) = 45 then (((b.toNat : Nat) : Int) == 45) else if ((b.toNat : Nat) : Int) = 42 then (((b.toNat : Nat) : Int) == 42) else if ((b.toNat : Nat) : Int) = 47 then (((b.toNat : Nat) : Int) == 47) else if ((b.toNat : Nat) : Int) = 37 then (((b.toNat : Nat) : Int) == 37) else if ((b.toNat : Nat) : Int) = 60 then (((b.toNat : Nat) : Int) == 60) else if ((b.toNat : Nat) : Int) = 94 then (((b.toNat : Nat) : Int) == 94) else if ((b.toNat : Nat) : Int) = 124 then (((b.toNat : Nat) : Int) == 124) else (((b.toNat : Nat) : Int) == 95)) = decide (b ∈ sg1) := byte_all (by decide +kernel)
 have k := key b
 have g : ∀ c : Bool, (if decide (b ∈ sg1) = c then (if c = true then mkB [b] else mkB []) else mkB []) = (if c = true then mkB [b] else mkB []) ∨ True := fun _ => .inr trivial
 have fin : (if b ∈ sg1 then mkB [b] else mkB []) = (if decide (b ∈ sg1) = true then mkB [b] else mkB []) := by simp
 rw [fin, ← k]
 clear g k fin key
 by_cases h40 : ((b.toNat : Nat) : Int) = 40
 · simp only [if_pos h40]
 simp only [if_neg h40]
 by_cases h41 : ((b.toNat : Nat) : Int) = 41
 · simp only [if_pos h41]
 simp only [if_neg h41]
 by_cases h91 : ((b.toNat : Nat) : Int) = 91
 · simp only [if_pos h91]
 simp only [if_neg h91]
 by_cases h93 : ((b.toNat : Nat) : Int) = 93
 · simp only [if_pos h93]
 simp only [if_neg h93]
 by_cases h123 : ((b.toNat : Nat) : Int) = 123
 · simp only [if_pos h123]
 simp only [if_neg h123]
 by_cases h125 : ((b.toNat : Nat) : Int) = 125
 · simp only [if_pos h125]
 simp only [if_neg h125]
 by_cases h44 : ((b.toNat : Nat) : Int) = 44
 · simp only [if_pos h44]
 simp only [if_neg h44]
 by_cases h59 : ((b.toNat : Nat) : Int) = 59
 · simp only [if_pos h59]
 simp only [if_neg h59]
 by_cases h58 : ((b.toNat : Nat) : Int) = 58
 · simp only [if_pos h58]
 simp only [if_neg h58]
 by_cases h61 : ((b.toNat : Nat) : Int) = 61
 · simp only [if_pos h61]
 simp only [if_neg h61]
 by_cases h43 : ((b.toNat : Nat) : Int) = 43
 · simp only [if_pos h43]
 simp only [if_neg h43]
 by_cases h45 : ((b.toNat : Nat) : Int) = 45
 · simp only [if_pos h45]
 simp only [if_neg h45]
 by_cases h42 : ((b.toNat : Nat) : Int) = 42
 · simp only [if_pos h42]
 simp only [if_neg h42]
 by_cases h47 : ((b.toNat : Nat) : Int) = 47
 · simp only [if_pos h47]
 simp only [if_neg h47]
 by_cases h37 : ((b.toNat : Nat) : Int) = 37
 · simp only [if_pos h37]
 simp only [if_neg h37]
 by_cases h60 : ((b.toNat : Nat) : Int) = 60
 · simp only [if_pos h60]
 simp only [if_neg h60]
 by_cases h94 : ((b.toNat : Nat) : Int) = 94
 · simp only [if_pos h94]
 simp only [if_neg h94]
 by_cases h124 : ((b.toNat : Nat) : Int) = 124
 · simp only [if_pos h124]
 simp only [if_neg h124]
theorem sign_val {i : Nat} (h : i < l.length) : token_sign (mkB l) (i : Int) = some (match sgn (l.drop i) with | some x => mkB x | none => mkB []) := by
 have e1 : IntKind.wrap .i64 ((i : Int) + 1) = ((i + 1 : Nat) : Int) := w_succ (by omega)
 have e2 : IntKind.wrap .i64 ((i : Int) + 2) = ((i + 2 : Nat) : Int) := by rw [wrap_in (by omega) (by omega)]; omega
 have S0 : ∀ (n1 : ¬ (l.drop i).take 2 = [61, 62]) (n2 : ¬ (l.drop i).take 2 = [45, 62]), token_sign.j1 (mkB l) (i : Int) false = some (match sgn (l.drop i) with | some x => mkB x | none => mkB []) := fun n1 n2 => by
   unfold token_sign.j1
   rw [if_neg (by decide), sign_j0 hl h]
   rw [drop_cons h] at n1 n2 ⊢
   rw [sgn_val, if_neg n1, if_neg n2]
   by_cases m : l[i] ∈ sg1
   · rw [if_pos m, if_pos m]
   · rw [if_neg m, if_neg m]
 have S1 : ∀ x, i + 1 < l.length → (l.drop i).take 2 = x → sgn (l.drop i) = some x → token_sign.j1 (mkB l) (i : Int) true = some (match sgn (l.drop i) with | some x => mkB x | none => mkB []) := fun x h2 hx hs => by
   unfold token_sign.j1
   rw [if_pos rfl, e2, mkB_size, if_pos ⟨by omega, by omega, by omega⟩, ext_in, hx, hs]
 have two : i + 1 < l.length ∨ (¬ (l.drop i).take 2 = [61, 62] ∧ ¬ (l.drop i).take 2 = [45, 62]) := by
   by_cases h2 : i + 1 < l.length
   · exact .inl h2
   · refine .inr ⟨fun e => ?_, fun e => ?_⟩ <;>
     · have := congrArg List.length e
       rw [List.length_take, List.length_drop] at this
       simp only [List.length_cons, List.length_nil] at this
       omega
 have sg : ∀ x, ((l.drop i).take 2 = [61, 62] → sgn (l.drop i) = some [61, 62]) ∧ (¬ (l.drop i).take 2 = [61, 62] → (l.drop i).take 2 = [45, 62] → sgn (l.drop i) = some [45, 62]) ∨ x = 0 := fun _ => .inl ⟨fun e => by rw [drop_cons h] at e ⊢; rw [sgn_val, if_pos e], fun n e => by rw [drop_cons h] at n e ⊢; rw [sgn_val, if_neg n, if_pos e]⟩
 have sg' := (sg (1 : Nat)).resolve_right (by decide)
 unfold token_sign
 rw [e1, mkB_size]
 by_cases h2 : i + 1 < l.length
 · rw [if_pos (by omega), e2, if_pos ⟨by omega, by omega, by omega⟩, ext_in]
   by_cases c1 : (l.drop i).take 2 = [61, 62]
   · rw [if_pos (show mkB ((l.drop i).take 2) = ByteArray.mk #[61, 62] by rw [c1]; rfl), S1 _ h2 c1 (sg'.1 c1)]
   · rw [if_neg (show ¬ mkB ((l.drop i).take 2) = ByteArray.mk #[61, 62] from fun e => c1 (mkB_inj (b := [61, 62]) e)), if_pos ⟨by omega, by omega, by omega⟩]
     by_cases c2 : (l.drop i).take 2 = [45, 62]
     · rw [decide_eq_true (show mkB ((l.drop i).take 2) = ByteArray.mk #[45, 62] by rw [c2]; rfl), S1 _ h2 c2 (sg'.2 c1 c2)]
     · rw [decide_eq_false (show ¬ mkB ((l.drop i).take 2) = ByteArray.mk #[45, 62] from fun e => c2 (mkB_inj (b := [45, 62]) e)), S0 c1 c2]
 · have := two.resolve_left h2
   rw [if_neg (by omega), S0 this.1 this.2]
theorem sgn_len {r x : List UInt8} (h : sgn r = some x) : 1 ≤ x.length ∧ x.length ≤ r.length := by
 have h1 := List.find?_some h
 have h2 := List.mem_of_find?_eq_some h
 have h3 : 1 ≤ x.length := by
   have : (SG.all fun x => decide (1 ≤ x.length)) = true := by decide
   have := List.all_eq_true.1 this x h2
   exact of_decide_eq_true this
 have h4 := congrArg List.length (of_decide_eq_true h1)
 rw [List.length_take] at h4
 omega
theorem sign_ag {i : Nat} (h : i < l.length) (n1 : loB l[i] = false) (n2 : upB l[i] = false) (n3 : dgB l[i] = false) (n4 : ¬ l[i].toNat = 34) : Ag l.length i (token_next (mkB l) (i : Int)) (roadref2_token (mkB (l.drop i))) := by
 have hrl : (l.drop i).length = l.length - i := List.length_drop
 have T : token_next (mkB l) (i : Int) = some (match sgn (l.drop i) with | some x => (T_token_Token.mk 6 (mkB x) (i : Int), ((i + x.length : Nat) : Int), true) | none => (T_token_Token.mk 6 (mkB []) (i : Int), (i : Int), false)) := by
   unfold token_next
   rw [gb_at h, Option.bind_some, low_val, Option.bind_some, n1, if_neg (by decide), great_val, Option.bind_some, n2]
   unfold token_next.j1
   rw [if_neg (by decide), digit_val, Option.bind_some, n3, if_neg (by decide), if_neg (by omega)]
   unfold token_next.j0
   rw [sign_val hl h, Option.bind_some]
   cases hs : sgn (l.drop i) with
   | none =>
     simp only
     rw [mkB_size, decide_eq_true mkB_nil.symm, List.length_nil, show (i : Int) + ((0 : Nat) : Int) = (i : Int) by omega, wrap_in (by omega) (by omega)]
     rfl
   | some x =>
     have hx := sgn_len hl hs
     simp only
     rw [mkB_size, decide_eq_false (fun e => by have := mkB_inj (b := []) e; rw [this] at hx; simp at hx), wrap_in (by omega) (by omega)]
     rfl
 have R : roadref2_token (mkB (l.drop i)) = match sgn (l.drop i) with
     | some x => some (T_roadref2_Tok.mk 6 (mkB x) 0, ((x.length : Nat) : Int))
     | none => some (T_roadref2_Tok.mk 0 (ByteArray.mk #[]) 0, -1) := by
   rw [← tok_j0 (by omega) (T_roadref2_Tok.mk 0 (ByteArray.mk #[]) 0)]
   unfold roadref2_token
   have g0 : gb (mkB (l.drop i)) 0 = some ((l[i].toNat : Nat) : Int) := by rw [drop_cons h, gb_0]
   rw [g0, Option.bind_some, if_neg (by omega), if_pos (by decide +kernel)]
   show Option.bind (roadref2_run (mkB (l.drop i)) (ByteArray.extract inner63 (Int.toNat 52) (Int.toNat 62))) _ = _
   rw [ext62, run_val dg_has (by omega), Option.bind_some, drop_cons h, tw_f n3, if_neg (by decide), ← drop_cons h]
   show Option.bind (roadref2_run (mkB (l.drop i)) inner63) _ = _
   rw [run_val inn_has (by omega), Option.bind_some]
   have J : ∀ n, roadref2_token.j1 (mkB (l.drop i)) (T_roadref2_Tok.mk 0 (ByteArray.mk #[]) 0) n false = roadref2_token.j0 (mkB (l.drop i)) (T_roadref2_Tok.mk 0 (ByteArray.mk #[]) 0) := fun n => by
     unfold roadref2_token.j1; rw [if_neg (by decide)]
   by_cases z : ((tw inn (l.drop i) : Nat) : Int) > 0
   · rw [if_pos z, Option.bind_some]
     have b95 : l[i].toNat = 95 := by
       have : inn l[i] = true := by
         cases c : inn l[i] with
         | true => rfl
         | false => rw [drop_cons h, tw_f c] at z; omega
       refine byte_all (p := fun b => loB b = false → upB b = false → dgB b = false → inn b = true → b.toNat = 95) (by decide +kernel) l[i] n1 n2 n3 this
     have : (((l[i].toNat : Nat) : Int) != 95) = false := by rw [b95]; rfl
     rw [this, J]
   · rw [if_neg z, J]
 rw [T, R]
 cases hs : sgn (l.drop i) with
 | none => exact Ag.no (m := -1) (by decide)
 | some x =>
   have hx := sgn_len hl hs
   exact Ag.yes (by omega) (by omega) rfl rfl rfl
theorem next_ag {i : Nat} (h : i < l.length) : Ag l.length i (token_next (mkB l) (i : Int)) (roadref2_token (mkB (l.drop i))) := by
 cases n1 : loB l[i] with
 | true => exact name_ag hl h (.inl n1)
 | false =>
   cases n2 : upB l[i] with
   | true => exact name_ag hl h (.inr n2)
   | false =>
     cases n3 : dgB l[i] with
     | true => exact num_ag hl h n3
     | false =>
       by_cases n4 : l[i].toNat = 34
       · exact text_ag hl h n4
       · exact sign_ag hl h n1 n2 n3 n4
end
def Tt (t : Tk) : Rk := ⟨t.Kind, t.Text, t.At⟩
theorem read_all {l : List UInt8} (hl : l.length ≤ 4000) : ∀ (d k : Nat) (out : List Tk), l.length - k ≤ d → k ≤ l.length → (∀ h : k < l.length, spB l[k] = false ∧ ¬ l[k].toNat = 35) → out.length ≤ k → ∃ a p e, token_Read.l0 (mkB l) out (k : Int) = some (a, p, e) ∧ roadref2_Tokens.l0 (mkB l) (out.map Tt) (k : Int) = some (a.map Tt, p, e) ∧ a.length ≤ 4000 := by
 intro d
 have sl : (mkB l).size = l.length := rfl
 have stop : ∀ (k : Nat) (out : List Tk), k = l.length → out.length ≤ k → ∃ a p e, token_Read.l0 (mkB l) out (k : Int) = some (a, p, e) ∧ roadref2_Tokens.l0 (mkB l) (out.map Tt) (k : Int) = some (a.map Tt, p, e) ∧ a.length ≤ 4000 := fun k out hk ho =>
   ⟨out, 0, 0, by rw [token_Read.l0_eq, sl, if_neg (by omega)], by rw [roadref2_Tokens.l0_eq, sl, if_neg (by omega)], by omega⟩
 induction d with
 | zero => intro k out hd hk _ ho; exact stop k out (by omega) ho
 | succ d ih =>
   intro k out hd hk hp ho
   by_cases h : k < l.length
   · obtain ⟨p1, p2⟩ := hp h
     obtain ⟨t, x, ok, T, m, n1, n2, n3, n4⟩ := next_ag hl h
     have TT := token_Read.l0_eq (mkB l) out (k : Int)
     rw [sl, if_pos (by omega), n1, Option.bind_some] at TT
     have MM := roadref2_Tokens.l0_eq (mkB l) (out.map Tt) (k : Int)
     have er : ByteArray.extract (mkB l) (Int.toNat (k : Int)) (Int.toNat ((l.length : Nat) : Int)) = mkB (l.drop k) := ext_to l k
     rw [sl, if_pos (by omega), if_pos ⟨by omega, by omega, by omega⟩, er, run_val sp_has (by rw [List.length_drop]; omega), Option.bind_some, drop_cons h, tw_f p1, if_neg (by decide), gb_at h, Option.bind_some, if_neg (by omega), if_pos ⟨by omega, by omega, by omega⟩, ← drop_cons h, n2, Option.bind_some] at MM
     cases ok with
     | false =>
       have := n4 rfl
       simp only [Bool.false_eq_true, ↓reduceIte] at TT
       rw [if_pos this] at MM
       exact ⟨[], _, _, TT, MM, by simp⟩
     | true =>
       obtain ⟨j, j1, j2, j3, j4, j5, j6, j7⟩ := n3 rfl
       simp only [↓reduceIte] at TT
       rw [ap_one (by omega), Option.bind_some, j4] at TT
       obtain ⟨k', k1, k2, k3, k4, k5⟩ := skip_all hl ((out ++ [t]).map Tt) l.length (k + j) (by omega) (by omega)
       unfold token_skip at TT
       rw [k3, Option.bind_some] at TT
       have eT : ({ T with At := (k : Int) } : Rk) = Tt t := by unfold Tt; rw [j5, j6, j7]
       rw [if_neg (by omega), ap_one (by rw [List.length_map]; omega), Option.bind_some, eT, j3, wrap_in (by omega) (by omega)] at MM
       have em : out.map Tt ++ [Tt t] = (out ++ [t]).map Tt := by rw [List.map_append]; rfl
       rw [em, show (k : Int) + (j : Int) = ((k + j : Nat) : Int) by omega, k4] at MM
       obtain ⟨a, p, e, a1, a2, a3⟩ := ih k' (out ++ [t]) (by omega) k2 k5 (by rw [List.length_append, List.length_singleton]; omega)
       exact ⟨a, p, e, TT.trans a1, MM.trans a2, a3⟩
   · exact stop k out (by omega) ho
theorem eq_refl32 (l : List ByteArray) (hl : l.length ≤ 100000) : slices_Equal_32 l l = some true := by
 unfold slices_Equal_32
 rw [if_pos rfl]
 refine (all_loop0 (l := l) (F := fun i => slices_Equal_32.l0 l l (l.length : Int) i) (q := fun _ => true) (K := some false) (fun i hi => by
   show slices_Equal_32.l0 _ _ _ _ = _
   rw [slices_Equal_32.l0_eq, if_pos (by omega), gi_at hi, Option.bind_some, Option.bind_some, if_pos rfl, w_succ (by omega), if_pos rfl])).trans ?_
 rw [if_pos (by simp)]
 show slices_Equal_32.l0 _ _ _ _ = _
 rw [slices_Equal_32.l0_eq, if_neg (by omega)]
theorem law_l0 {a : List Tk} (ha : a.length ≤ 4000) : roadlaw2_TokenReads.l0 (a.map Tt) a (a.length : Int) 0 = some true := by
 refine (all_loop0 (l := a) (F := fun i => roadlaw2_TokenReads.l0 (a.map Tt) a (a.length : Int) i) (q := fun _ => true) (K := some false) (fun i hi => by
   have hm : i < (a.map Tt).length := by rw [List.length_map]; exact hi
   have hg : (a.map Tt)[i] = Tt a[i] := by simp
   show roadlaw2_TokenReads.l0 _ _ _ _ = _
   rw [roadlaw2_TokenReads.l0_eq, if_pos (by omega), gi_at hi, Option.bind_some, gi_at hm, Option.bind_some, Option.bind_some, Option.bind_some, hg]
   unfold Tt
   simp only [↓reduceIte]
   rw [w_succ (by omega)])).trans ?_
 rw [if_pos (by simp)]
 show roadlaw2_TokenReads.l0 _ _ _ _ = _
 rw [roadlaw2_TokenReads.l0_eq, if_neg (by omega)]
theorem both (s : ByteArray) : ∃ a p e, token_Read s = some (a, p, e) ∧ roadref2_Tokens s = some (a.map Tt, p, e) ∧ a.length ≤ 4000 := by
 rw [mkB_of s]
 generalize s.data.toList = l
 unfold token_Read roadref2_Tokens
 rw [mkB_size]
 by_cases h : (l.length : Int) > 4000
 · rw [if_pos h, if_pos h]; exact ⟨[], _, _, rfl, rfl, by simp⟩
 · rw [if_neg h, if_neg h]
   have hl : l.length ≤ 4000 := by omega
   obtain ⟨k, k1, k2, k3, k4, k5⟩ := skip_all hl ([] : List Rk) l.length 0 (by omega) (by omega)
   unfold token_skip
   have k3' : token_skip.l0 (mkB l) 0 = some (k : Int) := k3
   have k4' : roadref2_Tokens.l0 (mkB l) [] 0 = roadref2_Tokens.l0 (mkB l) [] (k : Int) := k4
   rw [k3', Option.bind_some, k4']
   exact read_all hl l.length k [] (by omega) k2 k5 (by simp)
theorem TokenReads (s : ByteArray) (hs : s.size ≤ reachBytes) (hb : s.size + 1 ≤ 1048576) : roadlaw2_TokenReads s = some true := by
 obtain ⟨a, p, e, h1, h2, h3⟩ := both s
 unfold roadlaw2_TokenReads
 rw [h1, Option.bind_some, h2, Option.bind_some]
 simp only [↓reduceIte, List.length_map]
 rw [words_val, Option.bind_some, wordList_val, Option.bind_some, eq_refl32 _ (by rw [words_len]; omega), Option.bind_some, if_pos rfl]
 unfold roadlaw2_TokenReads.j0
 exact law_l0 h3
end Go.Proofs.YtkbhpagogmmgnaaDoor.Fw

end
section
namespace Go.Proofs.YtkbhpagogmmgnaaDoor.tokenReads
open Go Go.Hw Go.ChangeShapes Go.WideShapes Go.ChangeAt Go.RowKit Go.Proofs.YtkbhpagogmmgnaaDoor.Fw
open Go.ChangeMaps (open_string shut_string)
set_option linter.unusedVariables false
theorem own : ownKnob Tryd.prog.godebug = none := by kernel_rfl
theorem laidOut : laidOutB Tryd.prog = true := by kernel_rfl
theorem bulkAll {H : Type} : ∀ l : List (DataW H), Rows.uptoBulkAll l = (l.map Rows.uptoBulk).sum
 | [] => rfl
 | d :: r => by rw [Rows.uptoBulkAll, List.map_cons, List.sum_cons, bulkAll r]
theorem measure {H : Type} : Measure (Rows.uptoBulk (H := H)) where
 pos d := by
   cases d with
   | lit l => cases l <;> simp [Rows.uptoBulk]
   | _ => simp [Rows.uptoBulk]
 str b := by simp [Rows.uptoBulk]
 slice e s := by rw [Rows.uptoBulk, bulkAll]; omega
 agg ps := by rw [Rows.uptoBulk, bulkAll]; omega
theorem tabEq : (Rows.laid_internal_strconv_uint64pow10 : DataW Unit) = Lib.tabData .u64 Lib.pow10Tab := by kernel_rfl
theorem gTab : Tryd.prog.globalNamed "internal/strconv.uint64pow10" = some 3 := by kernel_rfl
theorem gTabType : (Tryd.prog.globals[3]?).map (·.type) = some 194 := by kernel_rfl
theorem table {W : World} (h : laidMetH Tryd.prog Rows.tokenReadsUptoRow.laid W) : Lib.TabIs Tryd.prog W "internal/strconv.uint64pow10" .u64 Lib.pow10Tab :=
 Lib.tabIs_of_head (rest := [("unicode/utf8.acceptRanges", Rows.laid_unicode_utf8_acceptRanges), ("strconv.ErrRange", Rows.laid_strconv_ErrRange), ("strconv.ErrSyntax", Rows.laid_strconv_ErrSyntax), ("unicode.White_Space", Rows.laid_unicode_White_Space), ("strings.asciiSpace", Rows.laid_strings_asciiSpace), ("unicode/utf8.first", Rows.laid_unicode_utf8_first)]) gTab gTabType (show Tryd.prog.underlying 194 = some (.array 20 139) by kernel_rfl) (show Tryd.prog.underlying 139 = some (.int .u64) by kernel_rfl) (by kernel_rfl) (by kernel_rfl)
   (by have h' := (laidMet.tail (laidMet.tail (show laidMet Tryd.prog [("math/bits.deBruijn32tab", Rows.laid_math_bits_deBruijn32tab), ("math/bits.deBruijn64tab", Rows.laid_math_bits_deBruijn64tab), ("internal/strconv.uint64pow10", Rows.laid_internal_strconv_uint64pow10), ("unicode/utf8.acceptRanges", Rows.laid_unicode_utf8_acceptRanges), ("strconv.ErrRange", Rows.laid_strconv_ErrRange), ("strconv.ErrSyntax", Rows.laid_strconv_ErrSyntax), ("unicode.White_Space", Rows.laid_unicode_White_Space), ("strings.asciiSpace", Rows.laid_strings_asciiSpace), ("unicode/utf8.first", Rows.laid_unicode_utf8_first)] W from h))); rw [tabEq] at h'; exact h')
theorem tabEqS : (Rows.laid_strings_asciiSpace : DataW Unit) = Lib.tabData .u8 Lib.asciiSpaceTab := by kernel_rfl
theorem gTabS : Tryd.prog.globalNamed "strings.asciiSpace" = some 0 := by kernel_rfl
theorem gTabSType : (Tryd.prog.globals[0]?).map (·.type) = some 109 := by kernel_rfl
theorem tableS {W : World} (h : laidMetH Tryd.prog Rows.tokenReadsUptoRow.laid W) : Lib.TabIs Tryd.prog W "strings.asciiSpace" .u8 Lib.asciiSpaceTab :=
 Lib.tabIs_of_head (rest := [("unicode/utf8.first", Rows.laid_unicode_utf8_first)]) gTabS gTabSType (show Tryd.prog.underlying 109 = some (.array 256 5) by kernel_rfl) (show Tryd.prog.underlying 5 = some (.int .u8) by kernel_rfl) (by kernel_rfl) (by kernel_rfl)
   (by have h' := (laidMet.tail (laidMet.tail (laidMet.tail (laidMet.tail (laidMet.tail (laidMet.tail (laidMet.tail (show laidMet Tryd.prog [("math/bits.deBruijn32tab", Rows.laid_math_bits_deBruijn32tab), ("math/bits.deBruijn64tab", Rows.laid_math_bits_deBruijn64tab), ("internal/strconv.uint64pow10", Rows.laid_internal_strconv_uint64pow10), ("unicode/utf8.acceptRanges", Rows.laid_unicode_utf8_acceptRanges), ("strconv.ErrRange", Rows.laid_strconv_ErrRange), ("strconv.ErrSyntax", Rows.laid_strconv_ErrSyntax), ("unicode.White_Space", Rows.laid_unicode_White_Space), ("strings.asciiSpace", Rows.laid_strings_asciiSpace), ("unicode/utf8.first", Rows.laid_unicode_utf8_first)] W from h)))))))); rw [tabEqS] at h'; exact h')
noncomputable def laidHeap (os : Os) : Array Obj :=
 let h0 := (World.holding Tryd.prog os ⟨#[], #[], []⟩).heap
 let b0 := h0.size
 let h1 := ((((h0).push (.cells #[(.string ⟨#[118, 97, 108, 117, 101, 32, 111, 117, 116, 32, 111, 102, 32, 114, 97, 110, 103, 101]⟩)] 217)).push (.cells #[(.string ⟨#[105, 110, 118, 97, 108, 105, 100, 32, 115, 121, 110, 116, 97, 120]⟩)] 217)).push (.cells #[(.int .u16 9), (.int .u16 13), (.int .u16 1), (.int .u16 32), (.int .u16 133), (.int .u16 101), (.int .u16 160), (.int .u16 5760), (.int .u16 5600), (.int .u16 8192), (.int .u16 8202), (.int .u16 1), (.int .u16 8232), (.int .u16 8233), (.int .u16 1), (.int .u16 8239), (.int .u16 8287), (.int .u16 48), (.int .u16 12288), (.int .u16 12288), (.int .u16 1)] 160)).push (.cells #[(.slice (some ⟨b0 + 2, 0, none⟩) 7 7), (.slice none 0 0), (.int .i64 2)] 157)
 (((((((((h1).modify 8 (fun
     | .cells _ t frozen => .cells #[(.int .u8 0), (.int .u8 1), (.int .u8 28), (.int .u8 2), (.int .u8 29), (.int .u8 14), (.int .u8 24), (.int .u8 3), (.int .u8 30), (.int .u8 22), (.int .u8 20), (.int .u8 15), (.int .u8 25), (.int .u8 17), (.int .u8 4), (.int .u8 8), (.int .u8 31), (.int .u8 27), (.int .u8 13), (.int .u8 23), (.int .u8 21), (.int .u8 19), (.int .u8 16), (.int .u8 7), (.int .u8 26), (.int .u8 12), (.int .u8 18), (.int .u8 6), (.int .u8 11), (.int .u8 5), (.int .u8 10), (.int .u8 9)] t frozen
     | o => o)).modify 9 (fun
     | .cells _ t frozen => .cells #[(.int .u8 0), (.int .u8 1), (.int .u8 56), (.int .u8 2), (.int .u8 57), (.int .u8 49), (.int .u8 28), (.int .u8 3), (.int .u8 61), (.int .u8 58), (.int .u8 42), (.int .u8 50), (.int .u8 38), (.int .u8 29), (.int .u8 17), (.int .u8 4), (.int .u8 62), (.int .u8 47), (.int .u8 59), (.int .u8 36), (.int .u8 45), (.int .u8 43), (.int .u8 51), (.int .u8 22), (.int .u8 53), (.int .u8 39), (.int .u8 33), (.int .u8 30), (.int .u8 24), (.int .u8 18), (.int .u8 12), (.int .u8 5), (.int .u8 63), (.int .u8 55), (.int .u8 48), (.int .u8 27), (.int .u8 60), (.int .u8 41), (.int .u8 37), (.int .u8 16), (.int .u8 46), (.int .u8 35), (.int .u8 44), (.int .u8 21), (.int .u8 52), (.int .u8 32), (.int .u8 23), (.int .u8 11), (.int .u8 54), (.int .u8 26), (.int .u8 40), (.int .u8 15), (.int .u8 34), (.int .u8 20), (.int .u8 31), (.int .u8 10), (.int .u8 25), (.int .u8 14), (.int .u8 19), (.int .u8 9), (.int .u8 13), (.int .u8 8), (.int .u8 7), (.int .u8 6)] t frozen
     | o => o)).modify 3 (fun
     | .cells _ t frozen => .cells #[(.int .u64 1), (.int .u64 10), (.int .u64 100), (.int .u64 1000), (.int .u64 10000), (.int .u64 100000), (.int .u64 1000000), (.int .u64 10000000), (.int .u64 100000000), (.int .u64 1000000000), (.int .u64 10000000000), (.int .u64 100000000000), (.int .u64 1000000000000), (.int .u64 10000000000000), (.int .u64 100000000000000), (.int .u64 1000000000000000), (.int .u64 10000000000000000), (.int .u64 100000000000000000), (.int .u64 1000000000000000000), (.int .u64 10000000000000000000)] t frozen
     | o => o)).modify 5 (fun
     | .cells _ t frozen => .cells #[(.int .u8 128), (.int .u8 191), (.int .u8 160), (.int .u8 191), (.int .u8 128), (.int .u8 159), (.int .u8 144), (.int .u8 191), (.int .u8 128), (.int .u8 143), (.int .u8 0), (.int .u8 0), (.int .u8 0), (.int .u8 0), (.int .u8 0), (.int .u8 0), (.int .u8 0), (.int .u8 0), (.int .u8 0), (.int .u8 0), (.int .u8 0), (.int .u8 0), (.int .u8 0), (.int .u8 0), (.int .u8 0), (.int .u8 0), (.int .u8 0), (.int .u8 0), (.int .u8 0), (.int .u8 0), (.int .u8 0), (.int .u8 0)] t frozen
     | o => o)).modify 7 (fun
     | .cells _ t frozen => .cells #[(.iface 215 (.pointer (some ⟨b0 + 0, 0, none⟩)))] t frozen
     | o => o)).modify 6 (fun
     | .cells _ t frozen => .cells #[(.iface 215 (.pointer (some ⟨b0 + 1, 0, none⟩)))] t frozen
     | o => o)).modify 1 (fun
     | .cells _ t frozen => .cells #[(.pointer (some ⟨b0 + 3, 0, none⟩))] t frozen
     | o => o)).modify 0 (fun
     | .cells _ t frozen => .cells #[(.int .u8 0), (.int .u8 0), (.int .u8 0), (.int .u8 0), (.int .u8 0), (.int .u8 0), (.int .u8 0), (.int .u8 0), (.int .u8 0), (.int .u8 1), (.int .u8 1), (.int .u8 1), (.int .u8 1), (.int .u8 1), (.int .u8 0), (.int .u8 0), (.int .u8 0), (.int .u8 0), (.int .u8 0), (.int .u8 0), (.int .u8 0), (.int .u8 0), (.int .u8 0), (.int .u8 0), (.int .u8 0), (.int .u8 0), (.int .u8 0), (.int .u8 0), (.int .u8 0), (.int .u8 0), (.int .u8 0), (.int .u8 0), (.int .u8 1), (.int .u8 0), (.int .u8 0), (.int .u8 0), (.int .u8 0), (.int .u8 0), (.int .u8 0), (.int .u8 0), (.int .u8 0), (.int .u8 0), (.int .u8 0), (.int .u8 0), (.int .u8 0), (.int .u8 0), (.int .u8 0), (.int .u8 0), (.int .u8 0), (.int .u8 0), (.int .u8 0), (.int .u8 0), (.int .u8 0), (.int .u8 0), (.int .u8 0), (.int .u8 0), (.int .u8 0), (.int .u8 0), (.int .u8 0), (.int .u8 0), (.int .u8 0), (.int .u8 0), (.int .u8 0), (.int .u8 0), (.int .u8 0), (.int .u8 0), (.int .u8 0), (.int .u8 0), (.int .u8 0), (.int .u8 0), (.int .u8 0), (.int .u8 0), (.int .u8 0), (.int .u8 0), (.int .u8 0), (.int .u8 0), (.int .u8 0), (.int .u8 0), (.int .u8 0), (.int .u8 0), (.int .u8 0), (.int .u8 0), (.int .u8 0), (.int .u8 0), (.int .u8 0), (.int .u8 0), (.int .u8 0), (.int .u8 0), (.int .u8 0), (.int .u8 0), (.int .u8 0), (.int .u8 0), (.int .u8 0), (.int .u8 0), (.int .u8 0), (.int .u8 0), (.int .u8 0), (.int .u8 0), (.int .u8 0), (.int .u8 0), (.int .u8 0), (.int .u8 0), (.int .u8 0), (.int .u8 0), (.int .u8 0), (.int .u8 0), (.int .u8 0), (.int .u8 0), (.int .u8 0), (.int .u8 0), (.int .u8 0), (.int .u8 0), (.int .u8 0), (.int .u8 0), (.int .u8 0), (.int .u8 0), (.int .u8 0), (.int .u8 0), (.int .u8 0), (.int .u8 0), (.int .u8 0), (.int .u8 0), (.int .u8 0), (.int .u8 0), (.int .u8 0), (.int .u8 0), (.int .u8 0), (.int .u8 0), (.int .u8 0), (.int .u8 0), (.int .u8 0), (.int .u8 0), (.int .u8 0), (.int .u8 0), (.int .u8 0), (.int .u8 0), (.int .u8 0), (.int .u8 0), (.int .u8 0), (.int .u8 0), (.int .u8 0), (.int .u8 0), (.int .u8 0), (.int .u8 0), (.int .u8 0), (.int .u8 0), (.int .u8 0), (.int .u8 0), (.int .u8 0), (.int .u8 0), (.int .u8 0), (.int .u8 0), (.int .u8 0), (.int .u8 0), (.int .u8 0), (.int .u8 0), (.int .u8 0), (.int .u8 0), (.int .u8 0), (.int .u8 0), (.int .u8 0), (.int .u8 0), (.int .u8 0), (.int .u8 0), (.int .u8 0), (.int .u8 0), (.int .u8 0), (.int .u8 0), (.int .u8 0), (.int .u8 0), (.int .u8 0), (.int .u8 0), (.int .u8 0), (.int .u8 0), (.int .u8 0), (.int .u8 0), (.int .u8 0), (.int .u8 0), (.int .u8 0), (.int .u8 0), (.int .u8 0), (.int .u8 0), (.int .u8 0), (.int .u8 0), (.int .u8 0), (.int .u8 0), (.int .u8 0), (.int .u8 0), (.int .u8 0), (.int .u8 0), (.int .u8 0), (.int .u8 0), (.int .u8 0), (.int .u8 0), (.int .u8 0), (.int .u8 0), (.int .u8 0), (.int .u8 0), (.int .u8 0), (.int .u8 0), (.int .u8 0), (.int .u8 0), (.int .u8 0), (.int .u8 0), (.int .u8 0), (.int .u8 0), (.int .u8 0), (.int .u8 0), (.int .u8 0), (.int .u8 0), (.int .u8 0), (.int .u8 0), (.int .u8 0), (.int .u8 0), (.int .u8 0), (.int .u8 0), (.int .u8 0), (.int .u8 0), (.int .u8 0), (.int .u8 0), (.int .u8 0), (.int .u8 0), (.int .u8 0), (.int .u8 0), (.int .u8 0), (.int .u8 0), (.int .u8 0), (.int .u8 0), (.int .u8 0), (.int .u8 0), (.int .u8 0), (.int .u8 0), (.int .u8 0), (.int .u8 0), (.int .u8 0), (.int .u8 0), (.int .u8 0), (.int .u8 0), (.int .u8 0), (.int .u8 0), (.int .u8 0), (.int .u8 0), (.int .u8 0), (.int .u8 0), (.int .u8 0), (.int .u8 0), (.int .u8 0), (.int .u8 0), (.int .u8 0), (.int .u8 0), (.int .u8 0), (.int .u8 0), (.int .u8 0), (.int .u8 0), (.int .u8 0), (.int .u8 0)] t frozen
     | o => o)).modify 4 (fun
     | .cells _ t frozen => .cells #[(.int .u8 240), (.int .u8 240), (.int .u8 240), (.int .u8 240), (.int .u8 240), (.int .u8 240), (.int .u8 240), (.int .u8 240), (.int .u8 240), (.int .u8 240), (.int .u8 240), (.int .u8 240), (.int .u8 240), (.int .u8 240), (.int .u8 240), (.int .u8 240), (.int .u8 240), (.int .u8 240), (.int .u8 240), (.int .u8 240), (.int .u8 240), (.int .u8 240), (.int .u8 240), (.int .u8 240), (.int .u8 240), (.int .u8 240), (.int .u8 240), (.int .u8 240), (.int .u8 240), (.int .u8 240), (.int .u8 240), (.int .u8 240), (.int .u8 240), (.int .u8 240), (.int .u8 240), (.int .u8 240), (.int .u8 240), (.int .u8 240), (.int .u8 240), (.int .u8 240), (.int .u8 240), (.int .u8 240), (.int .u8 240), (.int .u8 240), (.int .u8 240), (.int .u8 240), (.int .u8 240), (.int .u8 240), (.int .u8 240), (.int .u8 240), (.int .u8 240), (.int .u8 240), (.int .u8 240), (.int .u8 240), (.int .u8 240), (.int .u8 240), (.int .u8 240), (.int .u8 240), (.int .u8 240), (.int .u8 240), (.int .u8 240), (.int .u8 240), (.int .u8 240), (.int .u8 240), (.int .u8 240), (.int .u8 240), (.int .u8 240), (.int .u8 240), (.int .u8 240), (.int .u8 240), (.int .u8 240), (.int .u8 240), (.int .u8 240), (.int .u8 240), (.int .u8 240), (.int .u8 240), (.int .u8 240), (.int .u8 240), (.int .u8 240), (.int .u8 240), (.int .u8 240), (.int .u8 240), (.int .u8 240), (.int .u8 240), (.int .u8 240), (.int .u8 240), (.int .u8 240), (.int .u8 240), (.int .u8 240), (.int .u8 240), (.int .u8 240), (.int .u8 240), (.int .u8 240), (.int .u8 240), (.int .u8 240), (.int .u8 240), (.int .u8 240), (.int .u8 240), (.int .u8 240), (.int .u8 240), (.int .u8 240), (.int .u8 240), (.int .u8 240), (.int .u8 240), (.int .u8 240), (.int .u8 240), (.int .u8 240), (.int .u8 240), (.int .u8 240), (.int .u8 240), (.int .u8 240), (.int .u8 240), (.int .u8 240), (.int .u8 240), (.int .u8 240), (.int .u8 240), (.int .u8 240), (.int .u8 240), (.int .u8 240), (.int .u8 240), (.int .u8 240), (.int .u8 240), (.int .u8 240), (.int .u8 240), (.int .u8 240), (.int .u8 240), (.int .u8 240), (.int .u8 240), (.int .u8 241), (.int .u8 241), (.int .u8 241), (.int .u8 241), (.int .u8 241), (.int .u8 241), (.int .u8 241), (.int .u8 241), (.int .u8 241), (.int .u8 241), (.int .u8 241), (.int .u8 241), (.int .u8 241), (.int .u8 241), (.int .u8 241), (.int .u8 241), (.int .u8 241), (.int .u8 241), (.int .u8 241), (.int .u8 241), (.int .u8 241), (.int .u8 241), (.int .u8 241), (.int .u8 241), (.int .u8 241), (.int .u8 241), (.int .u8 241), (.int .u8 241), (.int .u8 241), (.int .u8 241), (.int .u8 241), (.int .u8 241), (.int .u8 241), (.int .u8 241), (.int .u8 241), (.int .u8 241), (.int .u8 241), (.int .u8 241), (.int .u8 241), (.int .u8 241), (.int .u8 241), (.int .u8 241), (.int .u8 241), (.int .u8 241), (.int .u8 241), (.int .u8 241), (.int .u8 241), (.int .u8 241), (.int .u8 241), (.int .u8 241), (.int .u8 241), (.int .u8 241), (.int .u8 241), (.int .u8 241), (.int .u8 241), (.int .u8 241), (.int .u8 241), (.int .u8 241), (.int .u8 241), (.int .u8 241), (.int .u8 241), (.int .u8 241), (.int .u8 241), (.int .u8 241), (.int .u8 241), (.int .u8 241), (.int .u8 2), (.int .u8 2), (.int .u8 2), (.int .u8 2), (.int .u8 2), (.int .u8 2), (.int .u8 2), (.int .u8 2), (.int .u8 2), (.int .u8 2), (.int .u8 2), (.int .u8 2), (.int .u8 2), (.int .u8 2), (.int .u8 2), (.int .u8 2), (.int .u8 2), (.int .u8 2), (.int .u8 2), (.int .u8 2), (.int .u8 2), (.int .u8 2), (.int .u8 2), (.int .u8 2), (.int .u8 2), (.int .u8 2), (.int .u8 2), (.int .u8 2), (.int .u8 2), (.int .u8 2), (.int .u8 19), (.int .u8 3), (.int .u8 3), (.int .u8 3), (.int .u8 3), (.int .u8 3), (.int .u8 3), (.int .u8 3), (.int .u8 3), (.int .u8 3), (.int .u8 3), (.int .u8 3), (.int .u8 3), (.int .u8 35), (.int .u8 3), (.int .u8 3), (.int .u8 52), (.int .u8 4), (.int .u8 4), (.int .u8 4), (.int .u8 68), (.int .u8 241), (.int .u8 241), (.int .u8 241), (.int .u8 241), (.int .u8 241), (.int .u8 241), (.int .u8 241), (.int .u8 241), (.int .u8 241), (.int .u8 241), (.int .u8 241)] t frozen
     | o => o)
noncomputable def laidWorld (os : Os) : World :=
 { World.holding Tryd.prog os ⟨#[], #[], []⟩ with heap := laidHeap os }
set_option maxRecDepth 100000 in
theorem laid_met (os : Os) : laidMet Tryd.prog Rows.tokenReadsUptoRow.laid ((laidWorld os).forCall (fun _ _ => 0) ⟨#[], #[(.string (ByteArray.mk #[]))], []⟩).memory :=
 laidMet_of_run3 8 (by kernel_rfl) (by kernel_rfl) (by kernel_rfl)
set_option maxRecDepth 100000 in
theorem reads (os : Os) {H : Type} (enc : TypeId × Value → H) : ∃ places, DataW.whole enc Tryd.prog ((laidWorld os).forCall (fun _ _ => 0) ⟨#[], #[(.string (ByteArray.mk #[]))], []⟩).memory Tryd.f5.params.toList Rows.tokenReadsSpec.vars false (#[(.string (ByteArray.mk #[]))] : Array Value).toList 8 = some ([DataW.lit (.string [])], [], places) :=
 ⟨[], by kernel_rfl⟩
set_option maxRecDepth 100000 in
theorem lifted (os : Os) (started : os.Started) (H : Type) (enc : TypeId × Value → H) (F : Stop.Interp) :
   ReturnsInHanded {} Tryd.checked os 5 .any ((Rows.OpenSpec.upto Rows.tokenReadsSpec).preRow enc Tryd.prog Tryd.f5 Rows.tokenReadsUptoRow.domain false Rows.tokenReadsUptoRow.laid) (((Rows.OpenSpec.upto Rows.tokenReadsSpec).at F).post enc Tryd.prog Tryd.f5 false true false false) := by
 obtain ⟨places, hx⟩ := reads os enc
 refine returnsInHanded_of_row (C := Tryd.checked) (s := (Rows.OpenSpec.upto Rows.tokenReadsSpec)) own started (by kernel_rfl) Tryd.func5
   (witness_row_atRef (enc := enc) (C := Tryd.checked) false (laidWorld os) #[(.string (ByteArray.mk #[]))] rfl (by kernel_rfl) (by kernel_rfl) (by kernel_rfl)
     (OpenSpec.preRow_of_cond 8 hx (by kernel_rfl) (fun k hk => by cases hk; kernel_rfl) (by kernel_rfl) (laid_met os))) ?_
 intro W base args ds gs before hval0 hW hcnd hkk0 hsz0 hL _ _
 have hkk : Rows.uptoSmall H (ds ++ gs) = true := hkk0 _ rfl
 have hsz : (DataW.weightsEach Tryd.prog (Tryd.f5.params.toList ++ (Rows.OpenSpec.upto Rows.tokenReadsSpec).bare.plain.varTypes Tryd.prog) (ds ++ gs)).all (· ≤ reachBytes) = true := hsz0
 have hval : ∀ (j : Nat) t v, Tryd.f5.params[j]? = some t → args[j]? = some v → Value.okWide Tryd.prog W .any base t v := hval0
 have hW' := hW
 obtain ⟨p, q, hA0, hV, rfl, hfz, hnd⟩ := hW
 have hA : DataW.TrodAll enc Tryd.prog W 0 (fun _ => true) true Tryd.f5.params.toList args.toList ds p := hA0
 rw [Tryd.params5] at hA hval hsz
 obtain ⟨v0, vs0, d0, ds0, p0, q0_, hargs, rfl, rfl, h0, r0_⟩ := trodAll_cons hA
 obtain ⟨rfl, rfl, rfl⟩ := trodAll_nil r0_
 obtain rfl : args = #[v0] := by cases args; simp_all
 obtain ⟨rfl, rfl⟩ := trodVars_none hV
 have hs : (DataW.weightsEach Tryd.prog [9] [d0]).all (· ≤ reachBytes) = true := hsz
 simp only [DataW.weightsEach, List.append_nil] at hs
 have hw0 := hs
 have k0 := h0
 have lt0 : ∀ x ∈ p0, x.block < W.heap.size := by obtain ⟨m, hm⟩ := k0; exact DataW.trod_lt m _ _ _ hm
 obtain ⟨s0, rfl⟩ : ∃ s, v0 = .string s := by obtain ⟨s, rfl, _⟩ := open_string (show Tryd.prog.underlying 9 = some .string by kernel_rfl) (hval 0 9 v0 rfl rfl) h0; exact ⟨s, rfl⟩
 have w0 : s0.size ≤ reachBytes := by
   obtain ⟨fuel, hf⟩ := h0
   obtain ⟨s, hs, hq⟩ := tells_str (W := W) (show Tryd.prog.underlying 9 = some .string by kernel_rfl) fuel _ _ hf hw0
   simp [eStr, Value.cells] at hs
   rw [hs]; exact hq
 have b0 : s0.size + 1 ≤ Rows.uptoBulk d0 := by
   obtain ⟨fuel, hf⟩ := h0
   exact (kt_str (N := fuel + 1) (W := W) (enc := enc) (measure (H := H)) (show Tryd.prog.underlying 9 = some .string by kernel_rfl)) fuel (Nat.lt_succ_self _) _ _ hf s0 rfl
 have hb : (s0.size + 1) ≤ 1048576 := by
   have hk : Rows.uptoBulkAll ([d0] ++ []) ≤ 1048576 := of_decide_eq_true hkk
   have := b0
   simp only [List.append_nil, Rows.uptoBulkAll] at hk
   simp only at *
   omega
 refine ((Run.mono (R' := fun v h' => v = Value.bool true ∧ Ext W.heap h') (Fw.roadlaw2_TokenReads.walk (W := No) (Hold.start (Sub.refl _))  ⟨(TBg.of gTab (table hL)), (TBs.of gTabS (tableS hL))⟩ (Fw.TokenReads s0 w0 hb)) (fun v h' hp => by obtain ⟨m', st, hv⟩ := hp; exact ⟨hv, st.S.ext⟩)) W rfl).mono fun e W' he => ?_
 obtain ⟨v, rfl, ⟨rfl, ext⟩, same⟩ := he
 have bel := below_of ext same
 exact ⟨_, rfl, _, _, _, [], _, [], hW', trodAll_mk1 (shut_bool (show Tryd.prog.underlying 4 = some .bool by kernel_rfl) _), (trodAll_cons_mk (Below.trod laidOut (by kernel_rfl) (of_decide_eq_true (by kernel_rfl)) k0 bel lt0) trodAll_mk0), rfl, bel.frame _, fun h => by cases h⟩
theorem over : Rows.tokenReadsUptoRow.holds Tryd.pinned (Rows.OpenSpec.upto Rows.tokenReadsSpec) :=
 OpenClaim.holds_of_cond 5 Tryd.f5 rfl rfl rfl rfl rfl rfl rfl ⟨rfl, rfl, rfl, rfl, rfl⟩ rfl rfl rfl rfl rfl (by kernel_rfl) Tryd.func5 (by kernel_rfl)
   (of_decide_eq_true (by kernel_rfl)) (by unfold Func.isWrapper; first | (rw [if_pos (by decide +kernel)]; kernel_rfl) | (rw [if_neg (by decide +kernel)]; exact ⟨rfl, rfl⟩))
   (fun os started H enc _ F => by rw [OpenClaim.pre_eq_preRow]; exact lifted os started H enc F)
theorem plain (f : FuncId) (fn : Func) (hf : Tryd.pinned.checked.prog.funcNamed "roadstead/roadlaw2.TokenReads" = some f) (hfn : Tryd.pinned.checked.prog.funcs[f]? = some fn) :
   true = Tryd.pinned.checked.prog.looks [] ∧ ∀ (j : Nat) t, fn.params[j]? = some t → Tryd.pinned.checked.prog.wantsStandIn t = false := by
 obtain rfl : f = 5 := Option.some.inj ((show Tryd.prog.funcNamed "roadstead/roadlaw2.TokenReads" = some 5 by kernel_rfl).symm.trans hf) |>.symm
 obtain rfl : fn = Tryd.f5 := (Option.some.inj (Tryd.func5.symm.trans hfn)).symm
 refine ⟨by kernel_rfl, fun j t ht => ?_⟩
 rw [Tryd.params5] at ht
 have hm : t ∈ [9] := by simpa using Array.mem_of_getElem? ht
 have hall : ([9].all fun u => !Tryd.prog.wantsStandIn u) = true := by kernel_rfl
 exact (show Tryd.prog.wantsStandIn t = false by simpa using List.all_eq_true.1 hall t hm)
end Go.Proofs.YtkbhpagogmmgnaaDoor.tokenReads
namespace Go.Proofs.YtkbhpagogmmgnaaDoor
theorem tokenReads_holds : Rows.TokenReadsUptoCardSaid :=
 Claim7.holds_tied_plain_at .later [] _ _ _ _ tokenReads.over (fun _ h => by cases h) (by kernel_rfl) (fun _ h => by cases h) tokenReadsUpto_row_tie rfl ⟨rfl, rfl⟩ (by kernel_rfl) rfl tokenReads.plain (by kernel_rfl)
end Go.Proofs.YtkbhpagogmmgnaaDoor

end
