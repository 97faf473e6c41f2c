/- HearSmall: as many plots as there may be; HearSmall. -/
import Derived.Test.YtkfbbjiniapooaaGreatZSXA
import Derived.Test.YtkfbbjiniapooaaGreatZSXB
import Derived.Test.YtkfbbjiniapooaaGreatZSXC
import Derived.Test.YtkfbbjiniapooaaGreatZSXD
import Derived.Test.YtkfbbjiniapooaaGreatZSXE
import Derived.Test.YtkfbbjiniapooaaGreatZSXF
import Derived.Test.YtkfbbjiniapooaaGreatZSXH
import Derived.Test.YtkfbbjiniapooaaGreatZSXI
import Derived.Test.YtkfbbjiniapooaaGreatZSXJ
import Derived.Test.YtkfbbjiniapooaaGreatZSXK
import Derived.Test.YtkfbbjiniapooaaGreatZSXL
import Derived.Test.YtkfbbjiniapooaaGreatZSXM
import Derived.Test.YtkfbbjiniapooaaGreatZSYtkfbbjiniapooaaGreat
import Derived.Test.YtkfbbjiniapooaaGreatZSXP
import Derived.Test.YtkfbbjiniapooaaGreatZSXT
import Derived.Test.YtkfbbjiniapooaaGreatZSXQ
import Derived.Test.YtkfbbjiniapooaaGreatZSME
namespace Go.Proofs.YtkfbbjiniapooaaGreat.Sm
open Go.PL
theorem Jk : Ab 5 25 = Ab 4 26 := Yl 4
theorem Xn : EB = some true := by kernel_rfl
theorem d0 : A2 33 0 = A2 22 11 := e0.trans (e1.trans (e2.trans (e3.trans (e4.trans (e5.trans (e6.trans (e7.trans (e8.trans (e9.trans (e10))))))))))
theorem ld : A2 33 0 = some true := (d0.trans (d11.trans (d22.trans Xn)))
theorem DZ {x : Int} (h : -1000 ≤ x ∧ x ≤ 1000) : Cm x := by unfold Cm; omega
theorem YH : EY = some true := (BF ⟨DZ (by decide), DZ (by decide)⟩).trans ld
theorem lc : Ab 30 0 = some true := (c0.trans (c1.trans (c2.trans (c3.trans (c4.trans (c5.trans (c6.trans (c7.trans (c8.trans (c9.trans (H4.trans (FE.trans (Lv.trans (LB.trans (OV.trans (JH.trans (UT.trans (FG.trans (KW.trans (J5.trans (QY.trans (Jj.trans (I1.trans (I0.trans (VL.trans (Jk.trans (JE.trans (Mi.trans (N3.trans (Jl.trans YH))))))))))))))))))))))))))))))
theorem YP : E4 = some true := (BF ⟨DZ (by decide), DZ (by decide)⟩).trans lc
theorem lb : AD 81 0 = some true := (b0.trans (b9.trans (W2.trans (Xj.trans (Qr.trans (Yz.trans (YA.trans (Pr.trans (YM.trans YP)))))))))
theorem Y6 : E3 = some true := (BF ⟨DZ (by decide), DZ (by decide)⟩).trans lb
theorem YO : An 18 0 = some true := (a0.trans (a1.trans (a2.trans (a3.trans (a4.trans (a5.trans (a6.trans (a7.trans (a8.trans (a9.trans (Nv.trans (MS.trans (PR.trans (TS.trans (Zb.trans (YS.trans (HU.trans (U9.trans Y6))))))))))))))))))
theorem Sr : Gj = some true := (BF ⟨DZ (by decide), DZ (by decide)⟩).trans YO
end Go.Proofs.YtkfbbjiniapooaaGreat.Sm
