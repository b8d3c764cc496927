/- The words of the program's head, as a list of signs: three closed facts of every row ask them. -/
import Derived.Test.YtmamihkcikgmcaaRows
import Derived.JoinedOf
import Derived.KernelRfl
namespace Go.Proofs.Ytmamihkcikgmcaa
def ordSigns : List Nat := [
  104, 97, 114, 110, 101, 115, 115, 32, 52, 50, 99, 51, 102, 53, 97, 98, 55, 49, 57, 51, 56, 49, 102, 98, 51, 49, 101, 100, 57, 48, 56, 56, 102, 51, 98, 57, 56, 49, 102, 98,
  101, 53, 99, 48, 98, 52, 50, 49, 98, 56, 52, 99, 100, 56, 101, 55, 57, 99, 55, 97, 52, 50, 55, 48, 98, 56, 98, 57, 50, 52, 100, 51, 32, 99, 117, 116, 32, 97, 116, 32,
  108, 111, 111, 112, 46, 101, 120, 97, 109, 112, 108, 101, 47, 103, 48, 51, 51, 49, 53, 47, 108, 97, 119, 115, 46, 70, 110, 69, 120, 97, 99, 116, 70, 111, 114, 109, 97, 116, 76, 101,
  118, 101, 108, 32, 108, 111, 111, 112, 46, 101, 120, 97, 109, 112, 108, 101, 47, 103, 48, 51, 51, 49, 53, 47, 108, 97, 119, 115, 46, 70, 110, 77, 111, 118, 101, 115, 32, 108, 111, 111,
  112, 46, 101, 120, 97, 109, 112, 108, 101, 47, 103, 48, 51, 51, 49, 53, 47, 108, 97, 119, 115, 46, 70, 110, 69, 120, 97, 99, 116, 78, 101, 119, 87, 111, 114, 108, 100, 32, 108, 111,
  111, 112, 46, 101, 120, 97, 109, 112, 108, 101, 47, 103, 48, 51, 51, 49, 53, 47, 108, 97, 119, 115, 46, 70, 110, 83, 116, 101, 101, 114, 101, 100, 32, 108, 111, 111, 112, 46, 101, 120,
  97, 109, 112, 108, 101, 47, 103, 48, 51, 51, 49, 53, 47, 108, 97, 119, 115, 46, 70, 110, 73, 100, 108, 101, 32, 108, 111, 111, 112, 46, 101, 120, 97, 109, 112, 108, 101, 47, 103, 48,
  51, 51, 49, 53, 47, 108, 97, 119, 115, 46, 70, 110, 69, 120, 97, 99, 116, 82, 101, 97, 100, 87, 111, 114, 108, 100, 32, 108, 111, 111, 112, 46, 101, 120, 97, 109, 112, 108, 101, 47,
  103, 48, 51, 51, 49, 53, 47, 108, 97, 119, 115, 46, 70, 110, 87, 111, 114, 108, 100, 87, 104, 111, 108, 101, 32, 108, 111, 111, 112, 46, 101, 120, 97, 109, 112, 108, 101, 47, 103, 48,
  51, 51, 49, 53, 47, 108, 97, 119, 115, 46, 70, 110, 69, 120, 97, 99, 116, 83, 116, 101, 112, 87, 111, 114, 108, 100, 32, 108, 111, 111, 112, 46, 101, 120, 97, 109, 112, 108, 101, 47,
  103, 48, 51, 51, 49, 53, 47, 108, 97, 119, 115, 46, 70, 110, 69, 120, 97, 99, 116, 82, 117, 110, 87, 111, 114, 108, 100, 32, 108, 111, 111, 112, 46, 101, 120, 97, 109, 112, 108, 101,
  47, 103, 48, 51, 51, 49, 53, 47, 108, 97, 119, 115, 46, 70, 110, 87, 111, 114, 108, 100, 83, 116, 97, 121, 115]
theorem ord_eq : Try.prog.initOrder = String.ofList (ordSigns.map Char.ofNat) := by kernel_rfl
theorem ord_list : Try.prog.initOrder.toList = ordSigns.map Char.ofNat := by rw [ord_eq, String.toList_ofList]
def headWords : List (List Nat) := [
  [99, 117, 116],
  [97, 116],
  [108, 111, 111, 112, 46, 101, 120, 97, 109, 112, 108, 101, 47, 103, 48, 51, 51, 49, 53, 47, 108, 97, 119, 115, 46, 70, 110, 69, 120, 97, 99, 116, 70, 111, 114, 109, 97, 116, 76, 101, 118, 101, 108],
  [108, 111, 111, 112, 46, 101, 120, 97, 109, 112, 108, 101, 47, 103, 48, 51, 51, 49, 53, 47, 108, 97, 119, 115, 46, 70, 110, 77, 111, 118, 101, 115],
  [108, 111, 111, 112, 46, 101, 120, 97, 109, 112, 108, 101, 47, 103, 48, 51, 51, 49, 53, 47, 108, 97, 119, 115, 46, 70, 110, 69, 120, 97, 99, 116, 78, 101, 119, 87, 111, 114, 108, 100],
  [108, 111, 111, 112, 46, 101, 120, 97, 109, 112, 108, 101, 47, 103, 48, 51, 51, 49, 53, 47, 108, 97, 119, 115, 46, 70, 110, 83, 116, 101, 101, 114, 101, 100],
  [108, 111, 111, 112, 46, 101, 120, 97, 109, 112, 108, 101, 47, 103, 48, 51, 51, 49, 53, 47, 108, 97, 119, 115, 46, 70, 110, 73, 100, 108, 101],
  [108, 111, 111, 112, 46, 101, 120, 97, 109, 112, 108, 101, 47, 103, 48, 51, 51, 49, 53, 47, 108, 97, 119, 115, 46, 70, 110, 69, 120, 97, 99, 116, 82, 101, 97, 100, 87, 111, 114, 108, 100],
  [108, 111, 111, 112, 46, 101, 120, 97, 109, 112, 108, 101, 47, 103, 48, 51, 51, 49, 53, 47, 108, 97, 119, 115, 46, 70, 110, 87, 111, 114, 108, 100, 87, 104, 111, 108, 101],
  [108, 111, 111, 112, 46, 101, 120, 97, 109, 112, 108, 101, 47, 103, 48, 51, 51, 49, 53, 47, 108, 97, 119, 115, 46, 70, 110, 69, 120, 97, 99, 116, 83, 116, 101, 112, 87, 111, 114, 108, 100],
  [108, 111, 111, 112, 46, 101, 120, 97, 109, 112, 108, 101, 47, 103, 48, 51, 51, 49, 53, 47, 108, 97, 119, 115, 46, 70, 110, 69, 120, 97, 99, 116, 82, 117, 110, 87, 111, 114, 108, 100],
  [108, 111, 111, 112, 46, 101, 120, 97, 109, 112, 108, 101, 47, 103, 48, 51, 51, 49, 53, 47, 108, 97, 119, 115, 46, 70, 110, 87, 111, 114, 108, 100, 83, 116, 97, 121, 115]]
theorem words_ : behindMainWord (wordsSigns (ordSigns.map Char.ofNat)) = headWords.map (fun l => l.map Char.ofNat) := by kernel_rfl
theorem strip_cut (rest : List (List Char)) : stripLifts liftWords ("cut".toList :: rest) = ([], "cut".toList :: rest) := rfl
theorem headLifts_cut {P : Program} {rest : List (List Char)} (h : behindMainWord (wordsSigns P.initOrder.toList) = "cut".toList :: rest) : P.headLifts = [] := by
  unfold Program.headLifts
  rw [h, strip_cut]
  rfl
theorem make_cut {P : Program} {rest : List (List Char)} (h : behindMainWord (wordsSigns P.initOrder.toList) = "cut".toList :: rest) : P.make = some .cut := by
  unfold Program.make
  rw [h]
  rfl
theorem liftsFinal_cut {P : Program} {rest : List (List Char)} (h : behindMainWord (wordsSigns P.initOrder.toList) = "cut".toList :: rest) : P.liftsFinal = false := by
  unfold Program.liftsFinal
  simp only [h, headLifts_cut h]
  rfl
theorem mayEnter_cut {P : Program} {rest : List (List Char)} (h : behindMainWord (wordsSigns P.initOrder.toList) = "cut".toList :: rest) (h1 : P.laysLater = false) (h2 : P.bearsReflect = false) (h3 : P.doorFits [] = true) : P.mayEnter = true := by
  unfold Program.mayEnter
  rw [h]
  simp only [strip_cut, h1, h2, h3]
  rfl
theorem ws_ : behindMainWord (wordsSigns Try.prog.initOrder.toList) = "cut".toList :: (headWords.tail.map (fun l => l.map Char.ofNat)) := (congrArg (fun l => behindMainWord (wordsSigns l)) ord_list).trans (words_.trans (by kernel_rfl))
theorem laysLater_ : Try.prog.laysLater = false := by kernel_rfl
theorem bearsReflect_ : Try.prog.bearsReflect = false := by kernel_rfl
theorem doorFits_ : Try.prog.doorFits [] = true := by kernel_rfl
theorem make_ : Try.prog.make = some .cut := make_cut ws_
theorem liftsFinal_ : Try.prog.liftsFinal = false := liftsFinal_cut ws_
theorem mayEnter_ : Try.prog.mayEnter = true := mayEnter_cut ws_ laysLater_ bearsReflect_ doorFits_
theorem mapsRowed_ : mapsRowed Try.prog = true := by kernel_rfl
theorem plainKeys_ : Try.prog.plainKeys = true := by kernel_rfl
theorem stopsHeard_ : Try.prog.stopsHeard = true := by kernel_rfl
theorem laidOut_ : laidOutB Try.prog = true := by kernel_rfl
end Go.Proofs.Ytmamihkcikgmcaa
