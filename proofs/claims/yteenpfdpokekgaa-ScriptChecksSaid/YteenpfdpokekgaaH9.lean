import Derived.Test.YteenpfdpokekgaaH8
namespace Go.Proofs.Yteenpfdpokekgaa.PS0
open Go.RowKit Go.Proofs.YteenpfdpokekgaaW.PrintWords Go.Proofs.YteenpfdpokekgaaW.PrintLast Go.Proofs.YteenpfdpokekgaaW.PrintMore
set_option linter.unusedVariables false
set_option linter.unusedSimpArgs false
/-! The parser, over the test of a beginning: so that the kernel can run it -/
def lineG (pf : List Int → List Int → Bool) (b : List Int) (i n : Int) (ds : List Int) : LineR :=
  if pf (b.drop i.toNat) [112] = true then lineP b i n ds
  else if pf (b.drop i.toNat) [116, 105] = true then lineT b i n ds
  else if pf (b.drop i.toNat) [116] = true then lineX b i ds
  else lineD b i ds
def oneG (pf : List Int → List Int → Bool) (b : List Int) (i : Int) (es : List T40) (ds : List Int) : Int × Int × List T40 × List Int :=
  let r := lineG pf b i es.length ds
  ((endS b r).1, (endS b r).2, if (endS b r).2 = 0 ∧ r.x.f0 ≠ 0 then es ++ [r.x] else es, r.ds)
def loopG (pf : List Int → List Int → Bool) (b : List Int) : Nat → Int → Int → List T40 → List Int → Int × Int × List T40 × List Int
  | 0, i, e, es, ds => (i, e, es, ds)
  | n + 1, i, e, es, ds => if e = 0 ∧ i < (b.length : Int) then loopG pf b n (oneG pf b i es ds).1 (oneG pf b i es ds).2.1 (oneG pf b i es ds).2.2.1 (oneG pf b i es ds).2.2.2 else (i, e, es, ds)
def parseG (pf : List Int → List Int → Bool) (b : List Int) : List T40 × List Int × Int × Int :=
  if b.length > 1048576 then ([], [], 2, 0)
  else
    let r := loopG pf b (b.length + 1) 0 0 [] []
    if r.2.1 ≠ 0 then ([], [], r.2.1, r.1) else (r.2.2.1, r.2.2.2, 0, b.length)
theorem loop_G (b : List Int) : ∀ (n : Nat) (i e : Int) (es : List T40) (ds : List Int), loopS b n i e es ds = loopG prefB b n i e es ds
  | 0, i, e, es, ds => rfl
  | n + 1, i, e, es, ds => by
    unfold loopS loopG
    split
    · exact loop_G b n _ _ _ _
    · rfl
theorem parse_G (b : List Int) : parseS b = parseG prefB b := by
  unfold parseS parseG
  rw [loop_G]
def U8s (l : List Int) : List UInt8 := l.map fun n => UInt8.ofNat n.toNat
theorem ba_loop (b : ByteArray) : ∀ (d i : Nat) (r : List UInt8), b.size - i = d → ByteArray.toList.loop b i r = r.reverse ++ b.data.toList.drop i := by
  intro d
  induction d with
  | zero =>
    intro i r h
    unfold ByteArray.toList.loop
    have hs : b.data.toList.length = b.size := by rw [Array.length_toList]; rfl
    rw [if_neg (by omega), List.drop_eq_nil_of_le (by rw [hs]; omega), List.append_nil]
  | succ d ih =>
    intro i r h
    unfold ByteArray.toList.loop
    have hs0 : b.data.toList.length = b.size := by rw [Array.length_toList]; rfl
    have hs : i < b.data.toList.length := by rw [hs0]; omega
    rw [if_pos (by omega), ih (i + 1) _ (by omega), List.drop_eq_getElem_cons hs]
    have hg : b.get! i = b.data.toList[i] := by
      have h2 : i < b.data.size := by simpa using hs
      show b.data[i]! = _
      rw [getElem!_pos b.data i h2]
      simp
    rw [hg]
    simp
theorem ba_toList (b : ByteArray) : b.toList = b.data.toList := by
  unfold ByteArray.toList
  rw [ba_loop b b.size 0 [] (by omega)]
  simp
def prefK (l p : List Int) : Bool := decide (p.length ≤ l.length) && (U8s (l.take p.length) == U8s p)
theorem prefB_K : prefB = prefK := by
  funext l p
  unfold prefB prefK sameB
  rw [ba_toList, ba_toList]
  rfl
theorem parse_K (b : List Int) : parseS b = parseG prefK b := by rw [parse_G, prefB_K]
theorem live1 : parseS [112, 105, 99, 107, 32, 48, 32, 50, 10, 100, 114, 97, 119, 32, 45, 53, 10, 116, 105, 101, 114, 32, 49, 32, 49, 32, 48, 32, 50, 10] = ([⟨1, 0, 2, ⟨0, 0, 0⟩⟩, ⟨3, 1, 0, ⟨1, 0, 2⟩⟩], [-5], 0, 30) := by
  rw [parse_K]
  kernel_rfl
theorem live2 : parseS [112, 105, 99, 107, 32, 49, 32, 54, 53, 10] = ([], [], 9, 7) := by
  rw [parse_K]
  kernel_rfl
end Go.Proofs.Yteenpfdpokekgaa.PS0
