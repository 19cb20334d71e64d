import Derived.Test.YtfpebgpgabjieaaGreatDoorHM49
set_option linter.all false
namespace Go.Proofs.YtfpebgpgabjieaaGreatDoor
set_option maxRecDepth 100000
open Go.TM
variable [aW]
theorem Se:ai Tryz.prog 63 [bK (aj.take 0)] [I 1]:=ar (pol:=dB) (fuel:=1000) aG mixed az (by kernel_rfl)
theorem M8:ai Tryz.prog 20 [bK (aj.take 0)] [I 1]:=ar (pol:=dB) (fuel:=1000) aG mixed az (by kernel_rfl)
theorem Sf:ai Tryz.prog 63 [bK (aj.take 1)] [I 1]:=ar (pol:=dB) (fuel:=1000) aG mixed az (by kernel_rfl)
theorem M9:ai Tryz.prog 20 [bK (aj.take 1)] [I 1]:=ar (pol:=dB) (fuel:=1000) aG mixed az (by kernel_rfl)
theorem Sg:ai Tryz.prog 63 [bK (aj.take 2)] [I 1]:=ar (pol:=dB) (fuel:=1000) aG mixed az (by kernel_rfl)
theorem Na:ai Tryz.prog 20 [bK (aj.take 2)] [I 1]:=ar (pol:=dB) (fuel:=1000) aG mixed az (by kernel_rfl)
theorem Sh:ai Tryz.prog 63 [bK (aj.take 3)] [I 1]:=ar (pol:=dB) (fuel:=1000) aG mixed az (by kernel_rfl)
theorem Nb:ai Tryz.prog 20 [bK (aj.take 3)] [I 1]:=ar (pol:=dB) (fuel:=1000) aG mixed az (by kernel_rfl)
theorem Si:ai Tryz.prog 63 [bK (aj.take 4)] [I 1]:=ar (pol:=dB) (fuel:=1000) aG mixed az (by kernel_rfl)
theorem Nc:ai Tryz.prog 20 [bK (aj.take 4)] [I 1]:=ar (pol:=dB) (fuel:=1000) aG mixed az (by kernel_rfl)
end Go.Proofs.YtfpebgpgabjieaaGreatDoor
