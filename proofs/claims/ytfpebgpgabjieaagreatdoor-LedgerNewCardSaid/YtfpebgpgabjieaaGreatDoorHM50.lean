import Derived.Test.YtfpebgpgabjieaaGreatDoorHM49
set_option linter.all false
namespace Go.Proofs.YtfpebgpgabjieaaGreatDoor
set_option maxRecDepth 100000
open Go.TM
variable [aW]
theorem R5:ai Tryz.prog 63 [bK (aj.set 0 { aj.getD 0 (dV b6)with mx:=!(aj.getD 0 (dV b6)).mx })] [I 0]:=ar (pol:=dB) (fuel:=1000) aG mixed az (by kernel_rfl)
theorem M3:ai Tryz.prog 20 [bK (aj.set 0 { aj.getD 0 (dV b6)with mx:=!(aj.getD 0 (dV b6)).mx })] [I 0]:=ar (pol:=dB) (fuel:=1000) aG mixed az (by kernel_rfl)
theorem R6:ai Tryz.prog 64 [bK (aj.set 0 { aj.getD 0 (dV b6)with mx:=!(aj.getD 0 (dV b6)).mx })] [bK (aj.set 0 { aj.getD 0 (dV b6)with mx:=!(aj.getD 0 (dV b6)).mx })]:=ar (pol:=wu) (fuel:=1000) aG mixed az (by kernel_rfl)
theorem R7:ai Tryz.prog 63 [bK (aj.set 1 { aj.getD 1 (dV b6)with mx:=!(aj.getD 1 (dV b6)).mx })] [I 0]:=ar (pol:=dB) (fuel:=1000) aG mixed az (by kernel_rfl)
theorem M4:ai Tryz.prog 20 [bK (aj.set 1 { aj.getD 1 (dV b6)with mx:=!(aj.getD 1 (dV b6)).mx })] [I 0]:=ar (pol:=dB) (fuel:=1000) aG mixed az (by kernel_rfl)
theorem R8:ai Tryz.prog 64 [bK (aj.set 1 { aj.getD 1 (dV b6)with mx:=!(aj.getD 1 (dV b6)).mx })] [bK (aj.set 1 { aj.getD 1 (dV b6)with mx:=!(aj.getD 1 (dV b6)).mx })]:=ar (pol:=wu) (fuel:=1000) aG mixed az (by kernel_rfl)
theorem R9:ai Tryz.prog 63 [bK (aj.set 2 { aj.getD 2 (dV b6)with mx:=!(aj.getD 2 (dV b6)).mx })] [I 0]:=ar (pol:=dB) (fuel:=1000) aG mixed az (by kernel_rfl)
theorem M5:ai Tryz.prog 20 [bK (aj.set 2 { aj.getD 2 (dV b6)with mx:=!(aj.getD 2 (dV b6)).mx })] [I 0]:=ar (pol:=dB) (fuel:=1000) aG mixed az (by kernel_rfl)
theorem Sa:ai Tryz.prog 64 [bK (aj.set 2 { aj.getD 2 (dV b6)with mx:=!(aj.getD 2 (dV b6)).mx })] [bK (aj.set 2 { aj.getD 2 (dV b6)with mx:=!(aj.getD 2 (dV b6)).mx })]:=ar (pol:=wu) (fuel:=1000) aG mixed az (by kernel_rfl)
theorem Sb:ai Tryz.prog 63 [bK (aj.set 3 { aj.getD 3 (dV b6)with mx:=!(aj.getD 3 (dV b6)).mx })] [I 0]:=ar (pol:=dB) (fuel:=1000) aG mixed az (by kernel_rfl)
theorem M6:ai Tryz.prog 20 [bK (aj.set 3 { aj.getD 3 (dV b6)with mx:=!(aj.getD 3 (dV b6)).mx })] [I 0]:=ar (pol:=dB) (fuel:=1000) aG mixed az (by kernel_rfl)
theorem Sc:ai Tryz.prog 64 [bK (aj.set 3 { aj.getD 3 (dV b6)with mx:=!(aj.getD 3 (dV b6)).mx })] [bK (aj.set 3 { aj.getD 3 (dV b6)with mx:=!(aj.getD 3 (dV b6)).mx })]:=ar (pol:=wu) (fuel:=1000) aG mixed az (by kernel_rfl)
theorem Sd:ai Tryz.prog 63 [bK (aj.set 4 { aj.getD 4 (dV b6)with mx:=!(aj.getD 4 (dV b6)).mx })] [I 1]:=ar (pol:=dB) (fuel:=1000) aG mixed az (by kernel_rfl)
theorem M7:ai Tryz.prog 20 [bK (aj.set 4 { aj.getD 4 (dV b6)with mx:=!(aj.getD 4 (dV b6)).mx })] [I 1]:=ar (pol:=dB) (fuel:=1000) aG mixed az (by kernel_rfl)
end Go.Proofs.YtfpebgpgabjieaaGreatDoor
