/- The words of the program's head, as a list of signs: three closed facts of every row ask them. -/
import Derived.Test.YtmnddbgblhmlbaaRows
import Derived.JoinedOf
import Derived.KernelRfl
namespace Go.Proofs.Ytmnddbgblhmlbaa
def ordSigns : List Nat := [
  104, 97, 114, 110, 101, 115, 115, 32, 57, 100, 51, 55, 48, 52, 53, 97, 99, 97, 57, 51, 52, 54, 57, 49, 98, 49, 56, 53, 50, 57, 54, 50, 48, 99, 97, 54, 57, 55, 98, 52,
  97, 49, 50, 49, 100, 50, 48, 54, 50, 97, 102, 51, 100, 49, 55, 98, 100, 55, 51, 50, 51, 49, 56, 56, 52, 49, 53, 50, 102, 55, 52, 51, 32, 99, 117, 116, 32, 97, 116, 32,
  108, 111, 111, 112, 46, 101, 120, 97, 109, 112, 108, 101, 47, 103, 48, 51, 51, 49, 53, 47, 108, 97, 119, 115, 46, 70, 110, 67, 108, 97, 109, 112, 101, 100, 32, 108, 111, 111, 112, 46,
  101, 120, 97, 109, 112, 108, 101, 47, 103, 48, 51, 51, 49, 53, 47, 108, 97, 119, 115, 46, 70, 110, 69, 120, 97, 99, 116, 83, 99, 114, 105, 112, 116, 73, 110, 112, 117, 116, 32, 108,
  111, 111, 112, 46, 101, 120, 97, 109, 112, 108, 101, 47, 103, 48, 51, 51, 49, 53, 47, 108, 97, 119, 115, 46, 70, 110, 69, 120, 97, 99, 116, 84, 114, 97, 99, 107, 79, 107, 32, 108,
  111, 111, 112, 46, 101, 120, 97, 109, 112, 108, 101, 47, 103, 48, 51, 51, 49, 53, 47, 108, 97, 119, 115, 46, 70, 110, 69, 120, 97, 99, 116, 83, 97, 109, 101, 84, 114, 97, 99, 107,
  32, 108, 111, 111, 112, 46, 101, 120, 97, 109, 112, 108, 101, 47, 103, 48, 51, 51, 49, 53, 47, 108, 97, 119, 115, 46, 70, 110, 69, 120, 97, 99, 116, 80, 97, 99, 107, 73, 110, 116,
  115, 32, 108, 111, 111, 112, 46, 101, 120, 97, 109, 112, 108, 101, 47, 103, 48, 51, 51, 49, 53, 47, 108, 97, 119, 115, 46, 70, 110, 69, 120, 97, 99, 116, 83, 112, 108, 105, 116, 70,
  105, 101, 108, 100, 115, 32, 108, 111, 111, 112, 46, 101, 120, 97, 109, 112, 108, 101, 47, 103, 48, 51, 51, 49, 53, 47, 108, 97, 119, 115, 46, 70, 110, 69, 120, 97, 99, 116, 80, 97,
  99, 107, 84, 114, 97, 99, 107, 32, 108, 111, 111, 112, 46, 101, 120, 97, 109, 112, 108, 101, 47, 103, 48, 51, 51, 49, 53, 47, 108, 97, 119, 115, 46, 70, 110, 83, 101, 97, 108, 101,
  100, 32, 108, 111, 111, 112, 46, 101, 120, 97, 109, 112, 108, 101, 47, 103, 48, 51, 51, 49, 53, 47, 108, 97, 119, 115, 46, 70, 110, 78, 117, 109, 98, 101, 114, 115, 32, 108, 111, 111,
  112, 46, 101, 120, 97, 109, 112, 108, 101, 47, 103, 48, 51, 51, 49, 53, 47, 108, 97, 119, 115, 46, 70, 110, 69, 120, 97, 99, 116, 85, 110, 112, 97, 99, 107, 73, 110, 116, 115, 32,
  108, 111, 111, 112, 46, 101, 120, 97, 109, 112, 108, 101, 47, 103, 48, 51, 51, 49, 53, 47, 108, 97, 119, 115, 46, 70, 110, 69, 120, 97, 99, 116, 85, 110, 112, 97, 99, 107, 90, 101,
  114, 111, 115, 32, 108, 111, 111, 112, 46, 101, 120, 97, 109, 112, 108, 101, 47, 103, 48, 51, 51, 49, 53, 47, 108, 97, 119, 115, 46, 70, 110, 68, 101, 108, 116, 97, 115, 32, 108, 111,
  111, 112, 46, 101, 120, 97, 109, 112, 108, 101, 47, 103, 48, 51, 51, 49, 53, 47, 108, 97, 119, 115, 46, 70, 110, 69, 120, 97, 99, 116, 65, 112, 112, 108, 121, 68, 101, 108, 116, 97]
theorem ord_eq : Try.prog.initOrder = String.ofList (ordSigns.map Char.ofNat) := by kernel_rfl
theorem ord_list : Try.prog.initOrder.toList = ordSigns.map Char.ofNat := by rw [ord_eq, String.toList_ofList]
def headWords : List (List Nat) := [
  [99, 117, 116],
  [97, 116],
  [108, 111, 111, 112, 46, 101, 120, 97, 109, 112, 108, 101, 47, 103, 48, 51, 51, 49, 53, 47, 108, 97, 119, 115, 46, 70, 110, 67, 108, 97, 109, 112, 101, 100],
  [108, 111, 111, 112, 46, 101, 120, 97, 109, 112, 108, 101, 47, 103, 48, 51, 51, 49, 53, 47, 108, 97, 119, 115, 46, 70, 110, 69, 120, 97, 99, 116, 83, 99, 114, 105, 112, 116, 73, 110, 112, 117, 116],
  [108, 111, 111, 112, 46, 101, 120, 97, 109, 112, 108, 101, 47, 103, 48, 51, 51, 49, 53, 47, 108, 97, 119, 115, 46, 70, 110, 69, 120, 97, 99, 116, 84, 114, 97, 99, 107, 79, 107],
  [108, 111, 111, 112, 46, 101, 120, 97, 109, 112, 108, 101, 47, 103, 48, 51, 51, 49, 53, 47, 108, 97, 119, 115, 46, 70, 110, 69, 120, 97, 99, 116, 83, 97, 109, 101, 84, 114, 97, 99, 107],
  [108, 111, 111, 112, 46, 101, 120, 97, 109, 112, 108, 101, 47, 103, 48, 51, 51, 49, 53, 47, 108, 97, 119, 115, 46, 70, 110, 69, 120, 97, 99, 116, 80, 97, 99, 107, 73, 110, 116, 115],
  [108, 111, 111, 112, 46, 101, 120, 97, 109, 112, 108, 101, 47, 103, 48, 51, 51, 49, 53, 47, 108, 97, 119, 115, 46, 70, 110, 69, 120, 97, 99, 116, 83, 112, 108, 105, 116, 70, 105, 101, 108, 100, 115],
  [108, 111, 111, 112, 46, 101, 120, 97, 109, 112, 108, 101, 47, 103, 48, 51, 51, 49, 53, 47, 108, 97, 119, 115, 46, 70, 110, 69, 120, 97, 99, 116, 80, 97, 99, 107, 84, 114, 97, 99, 107],
  [108, 111, 111, 112, 46, 101, 120, 97, 109, 112, 108, 101, 47, 103, 48, 51, 51, 49, 53, 47, 108, 97, 119, 115, 46, 70, 110, 83, 101, 97, 108, 101, 100],
  [108, 111, 111, 112, 46, 101, 120, 97, 109, 112, 108, 101, 47, 103, 48, 51, 51, 49, 53, 47, 108, 97, 119, 115, 46, 70, 110, 78, 117, 109, 98, 101, 114, 115],
  [108, 111, 111, 112, 46, 101, 120, 97, 109, 112, 108, 101, 47, 103, 48, 51, 51, 49, 53, 47, 108, 97, 119, 115, 46, 70, 110, 69, 120, 97, 99, 116, 85, 110, 112, 97, 99, 107, 73, 110, 116, 115],
  [108, 111, 111, 112, 46, 101, 120, 97, 109, 112, 108, 101, 47, 103, 48, 51, 51, 49, 53, 47, 108, 97, 119, 115, 46, 70, 110, 69, 120, 97, 99, 116, 85, 110, 112, 97, 99, 107, 90, 101, 114, 111, 115],
  [108, 111, 111, 112, 46, 101, 120, 97, 109, 112, 108, 101, 47, 103, 48, 51, 51, 49, 53, 47, 108, 97, 119, 115, 46, 70, 110, 68, 101, 108, 116, 97, 115],
  [108, 111, 111, 112, 46, 101, 120, 97, 109, 112, 108, 101, 47, 103, 48, 51, 51, 49, 53, 47, 108, 97, 119, 115, 46, 70, 110, 69, 120, 97, 99, 116, 65, 112, 112, 108, 121, 68, 101, 108, 116, 97]]
theorem words_ : behindMainWord (wordsSigns (ordSigns.map Char.ofNat)) = headWords.map (fun l => l.map Char.ofNat) := by kernel_rfl
theorem strip_cut (rest : List (List Char)) : stripLifts liftWords ("cut".toList :: rest) = ([], "cut".toList :: rest) := rfl
theorem headLifts_cut {P : Program} {rest : List (List Char)} (h : behindMainWord (wordsSigns P.initOrder.toList) = "cut".toList :: rest) : P.headLifts = [] := by
  unfold Program.headLifts
  rw [h, strip_cut]
  rfl
theorem make_cut {P : Program} {rest : List (List Char)} (h : behindMainWord (wordsSigns P.initOrder.toList) = "cut".toList :: rest) : P.make = some .cut := by
  unfold Program.make
  rw [h]
  rfl
theorem liftsFinal_cut {P : Program} {rest : List (List Char)} (h : behindMainWord (wordsSigns P.initOrder.toList) = "cut".toList :: rest) : P.liftsFinal = false := by
  unfold Program.liftsFinal
  simp only [h, headLifts_cut h]
  rfl
theorem mayEnter_cut {P : Program} {rest : List (List Char)} (h : behindMainWord (wordsSigns P.initOrder.toList) = "cut".toList :: rest) (h1 : P.laysLater = false) (h2 : P.bearsReflect = false) (h3 : P.doorFits [] = true) : P.mayEnter = true := by
  unfold Program.mayEnter
  rw [h]
  simp only [strip_cut, h1, h2, h3]
  rfl
theorem ws_ : behindMainWord (wordsSigns Try.prog.initOrder.toList) = "cut".toList :: (headWords.tail.map (fun l => l.map Char.ofNat)) := (congrArg (fun l => behindMainWord (wordsSigns l)) ord_list).trans (words_.trans (by kernel_rfl))
theorem laysLater_ : Try.prog.laysLater = false := by kernel_rfl
theorem bearsReflect_ : Try.prog.bearsReflect = false := by kernel_rfl
theorem doorFits_ : Try.prog.doorFits [] = true := by kernel_rfl
theorem make_ : Try.prog.make = some .cut := make_cut ws_
theorem liftsFinal_ : Try.prog.liftsFinal = false := liftsFinal_cut ws_
theorem mayEnter_ : Try.prog.mayEnter = true := mayEnter_cut ws_ laysLater_ bearsReflect_ doorFits_
theorem mapsRowed_ : mapsRowed Try.prog = true := by kernel_rfl
theorem plainKeys_ : Try.prog.plainKeys = true := by kernel_rfl
theorem stopsHeard_ : Try.prog.stopsHeard = true := by kernel_rfl
theorem laidOut_ : laidOutB Try.prog = true := by kernel_rfl
end Go.Proofs.Ytmnddbgblhmlbaa
