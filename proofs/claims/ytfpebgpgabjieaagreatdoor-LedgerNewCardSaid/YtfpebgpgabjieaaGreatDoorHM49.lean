import Derived.Test.YtfpebgpgabjieaaGreatDoorHM18
set_option linter.all false
namespace Go.Proofs.YtfpebgpgabjieaaGreatDoor
set_option maxRecDepth 100000
open Go.TM
def b6:ByteArray:=⟨⟨[103,101,109]⟩⟩
variable [aW]
theorem Vd:ai Tryz.prog 63 [bK (aj++[dV b6])] [I 0]:=ar (pol:=dB) (fuel:=1000) aG mixed az (by kernel_rfl)
theorem RE:ai Tryz.prog 20 [bK (aj++[dV b6])] [I 0]:=ar (pol:=dB) (fuel:=1000) aG mixed az (by kernel_rfl)
theorem Ve:ai Tryz.prog 64 [bK (aj++[dV b6])] [bK (aj++[dV b6])]:=ar (pol:=wu) (fuel:=1000) aG mixed az (by kernel_rfl)
theorem RF:ai Tryz.prog 63 [bK (aj.set 0 { aj.getD 0 (dV b6)with nm:=b6 })] [I 0]:=ar (pol:=dB) (fuel:=1000) aG mixed az (by kernel_rfl)
theorem MW:ai Tryz.prog 20 [bK (aj.set 0 { aj.getD 0 (dV b6)with nm:=b6 })] [I 0]:=ar (pol:=dB) (fuel:=1000) aG mixed az (by kernel_rfl)
theorem RH:ai Tryz.prog 64 [bK (aj.set 0 { aj.getD 0 (dV b6)with nm:=b6 })] [bK (aj.set 0 { aj.getD 0 (dV b6)with nm:=b6 })]:=ar (pol:=wu) (fuel:=1000) aG mixed az (by kernel_rfl)
theorem RI:ai Tryz.prog 63 [bK (aj.set 1 { aj.getD 1 (dV b6)with nm:=b6 })] [I 0]:=ar (pol:=dB) (fuel:=1000) aG mixed az (by kernel_rfl)
theorem MX:ai Tryz.prog 20 [bK (aj.set 1 { aj.getD 1 (dV b6)with nm:=b6 })] [I 0]:=ar (pol:=dB) (fuel:=1000) aG mixed az (by kernel_rfl)
theorem RJ:ai Tryz.prog 64 [bK (aj.set 1 { aj.getD 1 (dV b6)with nm:=b6 })] [bK (aj.set 1 { aj.getD 1 (dV b6)with nm:=b6 })]:=ar (pol:=wu) (fuel:=1000) aG mixed az (by kernel_rfl)
theorem RK:ai Tryz.prog 63 [bK (aj.set 2 { aj.getD 2 (dV b6)with nm:=b6 })] [I 0]:=ar (pol:=dB) (fuel:=1000) aG mixed az (by kernel_rfl)
theorem MY:ai Tryz.prog 20 [bK (aj.set 2 { aj.getD 2 (dV b6)with nm:=b6 })] [I 0]:=ar (pol:=dB) (fuel:=1000) aG mixed az (by kernel_rfl)
theorem RN:ai Tryz.prog 64 [bK (aj.set 2 { aj.getD 2 (dV b6)with nm:=b6 })] [bK (aj.set 2 { aj.getD 2 (dV b6)with nm:=b6 })]:=ar (pol:=wu) (fuel:=1000) aG mixed az (by kernel_rfl)
theorem RO:ai Tryz.prog 63 [bK (aj.set 3 { aj.getD 3 (dV b6)with nm:=b6 })] [I 0]:=ar (pol:=dB) (fuel:=1000) aG mixed az (by kernel_rfl)
theorem MZ:ai Tryz.prog 20 [bK (aj.set 3 { aj.getD 3 (dV b6)with nm:=b6 })] [I 0]:=ar (pol:=dB) (fuel:=1000) aG mixed az (by kernel_rfl)
theorem RP:ai Tryz.prog 64 [bK (aj.set 3 { aj.getD 3 (dV b6)with nm:=b6 })] [bK (aj.set 3 { aj.getD 3 (dV b6)with nm:=b6 })]:=ar (pol:=wu) (fuel:=1000) aG mixed az (by kernel_rfl)
theorem RQ:ai Tryz.prog 63 [bK (aj.set 4 { aj.getD 4 (dV b6)with nm:=b6 })] [I 0]:=ar (pol:=dB) (fuel:=1000) aG mixed az (by kernel_rfl)
theorem M0:ai Tryz.prog 20 [bK (aj.set 4 { aj.getD 4 (dV b6)with nm:=b6 })] [I 0]:=ar (pol:=dB) (fuel:=1000) aG mixed az (by kernel_rfl)
theorem RR:ai Tryz.prog 64 [bK (aj.set 4 { aj.getD 4 (dV b6)with nm:=b6 })] [bK (aj.set 4 { aj.getD 4 (dV b6)with nm:=b6 })]:=ar (pol:=wu) (fuel:=1000) aG mixed az (by kernel_rfl)
end Go.Proofs.YtfpebgpgabjieaaGreatDoor
