/- The words of the program's head, as a list of signs: three closed facts of every row ask them. -/
import Derived.Test.YtiopbdodegopdaaDoorRows
import Derived.JoinedOf
import Derived.KernelRfl
namespace Go.Proofs.YtiopbdodegopdaaDoor
def ordSigns : List Nat := [
  104, 97, 114, 110, 101, 115, 115, 32, 101, 50, 51, 55, 53, 48, 50, 102, 54, 50, 97, 49, 102, 99, 102, 55, 52, 52, 99, 98, 102, 49, 51, 102, 53, 51, 54, 51, 52, 100, 52, 49,
  99, 52, 48, 100, 99, 50, 49, 52, 102, 54, 48, 101, 52, 97, 49, 97, 97, 100, 100, 97, 100, 56, 100, 97, 57, 56, 48, 48, 55, 55, 57, 98, 32, 99, 117, 116, 32, 97, 116, 32,
  108, 111, 111, 112, 46, 101, 120, 97, 109, 112, 108, 101, 47, 103, 48, 51, 51, 49, 53, 47, 108, 97, 119, 115, 46, 70, 110, 70, 105, 101, 108, 100, 115, 65, 103, 97, 105, 110, 32, 108,
  111, 111, 112, 46, 101, 120, 97, 109, 112, 108, 101, 47, 103, 48, 51, 51, 49, 53, 47, 108, 97, 119, 115, 46, 70, 110, 69, 120, 97, 99, 116, 80, 97, 114, 115, 101, 76, 101, 118, 101,
  108, 32, 108, 111, 111, 112, 46, 101, 120, 97, 109, 112, 108, 101, 47, 103, 48, 51, 51, 49, 53, 47, 108, 97, 119, 115, 46, 70, 110, 76, 101, 118, 101, 108, 115]
theorem ord_eq : Tryd.prog.initOrder = String.ofList (ordSigns.map Char.ofNat) := by kernel_rfl
theorem ord_list : Tryd.prog.initOrder.toList = ordSigns.map Char.ofNat := by rw [ord_eq, String.toList_ofList]
def headWords : List (List Nat) := [
  [99, 117, 116],
  [97, 116],
  [108, 111, 111, 112, 46, 101, 120, 97, 109, 112, 108, 101, 47, 103, 48, 51, 51, 49, 53, 47, 108, 97, 119, 115, 46, 70, 110, 70, 105, 101, 108, 100, 115, 65, 103, 97, 105, 110],
  [108, 111, 111, 112, 46, 101, 120, 97, 109, 112, 108, 101, 47, 103, 48, 51, 51, 49, 53, 47, 108, 97, 119, 115, 46, 70, 110, 69, 120, 97, 99, 116, 80, 97, 114, 115, 101, 76, 101, 118, 101, 108],
  [108, 111, 111, 112, 46, 101, 120, 97, 109, 112, 108, 101, 47, 103, 48, 51, 51, 49, 53, 47, 108, 97, 119, 115, 46, 70, 110, 76, 101, 118, 101, 108, 115]]
theorem words_ : behindMainWord (wordsSigns (ordSigns.map Char.ofNat)) = headWords.map (fun l => l.map Char.ofNat) := by kernel_rfl
theorem strip_cut (rest : List (List Char)) : stripLifts liftWords ("cut".toList :: rest) = ([], "cut".toList :: rest) := rfl
theorem headLifts_cut {P : Program} {rest : List (List Char)} (h : behindMainWord (wordsSigns P.initOrder.toList) = "cut".toList :: rest) : P.headLifts = [] := by
  unfold Program.headLifts
  rw [h, strip_cut]
  rfl
theorem make_cut {P : Program} {rest : List (List Char)} (h : behindMainWord (wordsSigns P.initOrder.toList) = "cut".toList :: rest) : P.make = some .cut := by
  unfold Program.make
  rw [h]
  rfl
theorem liftsFinal_cut {P : Program} {rest : List (List Char)} (h : behindMainWord (wordsSigns P.initOrder.toList) = "cut".toList :: rest) : P.liftsFinal = false := by
  unfold Program.liftsFinal
  simp only [h, headLifts_cut h]
  rfl
theorem mayEnter_cut {P : Program} {rest : List (List Char)} (h : behindMainWord (wordsSigns P.initOrder.toList) = "cut".toList :: rest) (h1 : P.laysLater = false) (h2 : P.bearsReflect = false) (h3 : P.doorFits [] = true) : P.mayEnter = true := by
  unfold Program.mayEnter
  rw [h]
  simp only [strip_cut, h1, h2, h3]
  rfl
theorem ws_ : behindMainWord (wordsSigns Tryd.prog.initOrder.toList) = "cut".toList :: (headWords.tail.map (fun l => l.map Char.ofNat)) := (congrArg (fun l => behindMainWord (wordsSigns l)) ord_list).trans (words_.trans (by kernel_rfl))
theorem laysLater_ : Tryd.prog.laysLater = false := by kernel_rfl
theorem bearsReflect_ : Tryd.prog.bearsReflect = false := by kernel_rfl
theorem doorFits_ : Tryd.prog.doorFits [] = true := by kernel_rfl
theorem make_ : Tryd.prog.make = some .cut := make_cut ws_
theorem liftsFinal_ : Tryd.prog.liftsFinal = false := liftsFinal_cut ws_
theorem mayEnter_ : Tryd.prog.mayEnter = true := mayEnter_cut ws_ laysLater_ bearsReflect_ doorFits_
theorem mapsRowed_ : mapsRowed Tryd.prog = true := by kernel_rfl
theorem plainKeys_ : Tryd.prog.plainKeys = true := by kernel_rfl
theorem stopsHeard_ : Tryd.prog.stopsHeard = true := by kernel_rfl
theorem laidOut_ : laidOutB Tryd.prog = true := by kernel_rfl
end Go.Proofs.YtiopbdodegopdaaDoor
