import Derived.Test.YtkamgngihebpoaaGreatDoorHoFC07
import Derived.Test.YtkamgngihebpoaaGreatDoorChecked
import Derived.KernelRfl
import Derived.Test.YtkamgngihebpoaaGreatDoorHoRunT
/- That the program's functions are the printed ones. -/
set_option linter.all false
noncomputable section
namespace Go.Aw.C07
open Go Go.Aw Go.Proofs

theorem tok : TOk Tryz.prog ttr.get := fun t ti h => tiOk_facts (TTr.every_at (p := tiOk Tryz.prog) (show ttr.every (tiOk Tryz.prog) 1 0 = true by kernel_rfl) h)
theorem h7 : FunIn Tryz.prog ttr.get 7 p7 := funInB_sound (by kernel_rfl)
theorem h11 : FunIn Tryz.prog ttr.get 11 p11 := funInB_sound (by kernel_rfl)
theorem h12 : FunIn Tryz.prog ttr.get 12 p12 := funInB_sound (by kernel_rfl)
theorem h14 : FunIn Tryz.prog ttr.get 14 p14 := funInB_sound (by kernel_rfl)
theorem h15 : FunIn Tryz.prog ttr.get 15 p15 := funInB_sound (by kernel_rfl)
theorem h18 : FunIn Tryz.prog ttr.get 18 p18 := funInB_sound (by kernel_rfl)
theorem h19 : FunIn Tryz.prog ttr.get 19 p19 := funInB_sound (by kernel_rfl)
theorem h21 : FunIn Tryz.prog ttr.get 21 p21 := funInB_sound (by kernel_rfl)
theorem h23 : FunIn Tryz.prog ttr.get 23 p23 := funInB_sound (by kernel_rfl)
theorem h26 : FunIn Tryz.prog ttr.get 26 p26 := funInB_sound (by kernel_rfl)
theorem h30 : FunIn Tryz.prog ttr.get 30 p30 := funInB_sound (by kernel_rfl)
theorem h31 : FunIn Tryz.prog ttr.get 31 p31 := funInB_sound (by kernel_rfl)
theorem h32 : FunIn Tryz.prog ttr.get 32 p32 := funInB_sound (by kernel_rfl)
theorem h33 : FunIn Tryz.prog ttr.get 33 p33 := funInB_sound (by kernel_rfl)
theorem h34 : FunIn Tryz.prog ttr.get 34 p34 := funInB_sound (by kernel_rfl)
theorem h35 : FunIn Tryz.prog ttr.get 35 p35 := funInB_sound (by kernel_rfl)
theorem h36 : FunIn Tryz.prog ttr.get 36 p36 := funInB_sound (by kernel_rfl)
theorem h45 : FunIn Tryz.prog ttr.get 45 p45 := funInB_sound (by kernel_rfl)
theorem h47 : FunIn Tryz.prog ttr.get 47 p47 := funInB_sound (by kernel_rfl)
theorem h48 : FunIn Tryz.prog ttr.get 48 p48 := funInB_sound (by kernel_rfl)
theorem h50 : FunIn Tryz.prog ttr.get 50 p50 := funInB_sound (by kernel_rfl)
theorem h51 : FunIn Tryz.prog ttr.get 51 p51 := funInB_sound (by kernel_rfl)
theorem h52 : FunIn Tryz.prog ttr.get 52 p52 := funInB_sound (by kernel_rfl)
theorem h53 : FunIn Tryz.prog ttr.get 53 p53 := funInB_sound (by kernel_rfl)
theorem h54 : FunIn Tryz.prog ttr.get 54 p54 := funInB_sound (by kernel_rfl)
theorem h55 : FunIn Tryz.prog ttr.get 55 p55 := funInB_sound (by kernel_rfl)
theorem h56 : FunIn Tryz.prog ttr.get 56 p56 := funInB_sound (by kernel_rfl)
theorem h57 : FunIn Tryz.prog ttr.get 57 p57 := funInB_sound (by kernel_rfl)
theorem h58 : FunIn Tryz.prog ttr.get 58 p58 := funInB_sound (by kernel_rfl)
theorem h59 : FunIn Tryz.prog ttr.get 59 p59 := funInB_sound (by kernel_rfl)
theorem h60 : FunIn Tryz.prog ttr.get 60 p60 := funInB_sound (by kernel_rfl)
theorem h61 : FunIn Tryz.prog ttr.get 61 p61 := funInB_sound (by kernel_rfl)
theorem h66 : FunIn Tryz.prog ttr.get 66 p66 := funInB_sound (by kernel_rfl)
theorem h67 : FunIn Tryz.prog ttr.get 67 p67 := funInB_sound (by kernel_rfl)
theorem h70 : FunIn Tryz.prog ttr.get 70 p70 := funInB_sound (by kernel_rfl)
theorem h71 : FunIn Tryz.prog ttr.get 71 p71 := funInB_sound (by kernel_rfl)
theorem h72 : FunIn Tryz.prog ttr.get 72 p72 := funInB_sound (by kernel_rfl)
theorem h73 : FunIn Tryz.prog ttr.get 73 p73 := funInB_sound (by kernel_rfl)
theorem h74 : FunIn Tryz.prog ttr.get 74 p74 := funInB_sound (by kernel_rfl)
theorem h75 : FunIn Tryz.prog ttr.get 75 p75 := funInB_sound (by kernel_rfl)
theorem h77 : FunIn Tryz.prog ttr.get 77 p77 := funInB_sound (by kernel_rfl)
theorem h78 : FunIn Tryz.prog ttr.get 78 p78 := funInB_sound (by kernel_rfl)
theorem h79 : FunIn Tryz.prog ttr.get 79 p79 := funInB_sound (by kernel_rfl)
theorem h80 : FunIn Tryz.prog ttr.get 80 p80 := funInB_sound (by kernel_rfl)
theorem h81 : FunIn Tryz.prog ttr.get 81 p81 := funInB_sound (by kernel_rfl)
theorem h82 : FunIn Tryz.prog ttr.get 82 p82 := funInB_sound (by kernel_rfl)
theorem h83 : FunIn Tryz.prog ttr.get 83 p83 := funInB_sound (by kernel_rfl)
theorem h84 : FunIn Tryz.prog ttr.get 84 p84 := funInB_sound (by kernel_rfl)
theorem h85 : FunIn Tryz.prog ttr.get 85 p85 := funInB_sound (by kernel_rfl)
theorem h86 : FunIn Tryz.prog ttr.get 86 p86 := funInB_sound (by kernel_rfl)
theorem h87 : FunIn Tryz.prog ttr.get 87 p87 := funInB_sound (by kernel_rfl)
theorem h88 : FunIn Tryz.prog ttr.get 88 p88 := funInB_sound (by kernel_rfl)
theorem h89 : FunIn Tryz.prog ttr.get 89 p89 := funInB_sound (by kernel_rfl)
theorem h90 : FunIn Tryz.prog ttr.get 90 p90 := funInB_sound (by kernel_rfl)
theorem h91 : FunIn Tryz.prog ttr.get 91 p91 := funInB_sound (by kernel_rfl)
theorem h92 : FunIn Tryz.prog ttr.get 92 p92 := funInB_sound (by kernel_rfl)
theorem h96 : FunIn Tryz.prog ttr.get 96 p96 := funInB_sound (by kernel_rfl)
theorem h97 : FunIn Tryz.prog ttr.get 97 p97 := funInB_sound (by kernel_rfl)
theorem h98 : FunIn Tryz.prog ttr.get 98 p98 := funInB_sound (by kernel_rfl)
theorem h99 : FunIn Tryz.prog ttr.get 99 p99 := funInB_sound (by kernel_rfl)
theorem h100 : FunIn Tryz.prog ttr.get 100 p100 := funInB_sound (by kernel_rfl)
theorem h101 : FunIn Tryz.prog ttr.get 101 p101 := funInB_sound (by kernel_rfl)
theorem h102 : FunIn Tryz.prog ttr.get 102 p102 := funInB_sound (by kernel_rfl)
theorem h103 : FunIn Tryz.prog ttr.get 103 p103 := funInB_sound (by kernel_rfl)
theorem h104 : FunIn Tryz.prog ttr.get 104 p104 := funInB_sound (by kernel_rfl)
theorem h105 : FunIn Tryz.prog ttr.get 105 p105 := funInB_sound (by kernel_rfl)
theorem h106 : FunIn Tryz.prog ttr.get 106 p106 := funInB_sound (by kernel_rfl)
theorem h107 : FunIn Tryz.prog ttr.get 107 p107 := funInB_sound (by kernel_rfl)
theorem h108 : FunIn Tryz.prog ttr.get 108 p108 := funInB_sound (by kernel_rfl)
theorem h109 : FunIn Tryz.prog ttr.get 109 p109 := funInB_sound (by kernel_rfl)
theorem h110 : FunIn Tryz.prog ttr.get 110 p110 := funInB_sound (by kernel_rfl)
theorem h111 : FunIn Tryz.prog ttr.get 111 p111 := funInB_sound (by kernel_rfl)
theorem h112 : FunIn Tryz.prog ttr.get 112 p112 := funInB_sound (by kernel_rfl)
theorem h113 : FunIn Tryz.prog ttr.get 113 p113 := funInB_sound (by kernel_rfl)
theorem h114 : FunIn Tryz.prog ttr.get 114 p114 := funInB_sound (by kernel_rfl)
theorem h115 : FunIn Tryz.prog ttr.get 115 p115 := funInB_sound (by kernel_rfl)
theorem h116 : FunIn Tryz.prog ttr.get 116 p116 := funInB_sound (by kernel_rfl)
theorem h117 : FunIn Tryz.prog ttr.get 117 p117 := funInB_sound (by kernel_rfl)
theorem h118 : FunIn Tryz.prog ttr.get 118 p118 := funInB_sound (by kernel_rfl)
theorem h119 : FunIn Tryz.prog ttr.get 119 p119 := funInB_sound (by kernel_rfl)
theorem h121 : FunIn Tryz.prog ttr.get 121 p121 := funInB_sound (by kernel_rfl)
theorem h122 : FunIn Tryz.prog ttr.get 122 p122 := funInB_sound (by kernel_rfl)
theorem h123 : FunIn Tryz.prog ttr.get 123 p123 := funInB_sound (by kernel_rfl)
theorem h124 : FunIn Tryz.prog ttr.get 124 p124 := funInB_sound (by kernel_rfl)
theorem h125 : FunIn Tryz.prog ttr.get 125 p125 := funInB_sound (by kernel_rfl)
theorem h126 : FunIn Tryz.prog ttr.get 126 p126 := funInB_sound (by kernel_rfl)
theorem h127 : FunIn Tryz.prog ttr.get 127 p127 := funInB_sound (by kernel_rfl)
theorem h128 : FunIn Tryz.prog ttr.get 128 p128 := funInB_sound (by kernel_rfl)
theorem h129 : FunIn Tryz.prog ttr.get 129 p129 := funInB_sound (by kernel_rfl)
theorem h130 : FunIn Tryz.prog ttr.get 130 p130 := funInB_sound (by kernel_rfl)
theorem h131 : FunIn Tryz.prog ttr.get 131 p131 := funInB_sound (by kernel_rfl)
theorem h132 : FunIn Tryz.prog ttr.get 132 p132 := funInB_sound (by kernel_rfl)
theorem h133 : FunIn Tryz.prog ttr.get 133 p133 := funInB_sound (by kernel_rfl)
theorem h134 : FunIn Tryz.prog ttr.get 134 p134 := funInB_sound (by kernel_rfl)
theorem h135 : FunIn Tryz.prog ttr.get 135 p135 := funInB_sound (by kernel_rfl)
theorem h136 : FunIn Tryz.prog ttr.get 136 p136 := funInB_sound (by kernel_rfl)
theorem h137 : FunIn Tryz.prog ttr.get 137 p137 := funInB_sound (by kernel_rfl)
theorem h138 : FunIn Tryz.prog ttr.get 138 p138 := funInB_sound (by kernel_rfl)
theorem h141 : FunIn Tryz.prog ttr.get 141 p141 := funInB_sound (by kernel_rfl)
theorem h142 : FunIn Tryz.prog ttr.get 142 p142 := funInB_sound (by kernel_rfl)
theorem h143 : FunIn Tryz.prog ttr.get 143 p143 := funInB_sound (by kernel_rfl)
theorem h144 : FunIn Tryz.prog ttr.get 144 p144 := funInB_sound (by kernel_rfl)
theorem h145 : FunIn Tryz.prog ttr.get 145 p145 := funInB_sound (by kernel_rfl)
theorem h146 : FunIn Tryz.prog ttr.get 146 p146 := funInB_sound (by kernel_rfl)
theorem h147 : FunIn Tryz.prog ttr.get 147 p147 := funInB_sound (by kernel_rfl)
theorem h148 : FunIn Tryz.prog ttr.get 148 p148 := funInB_sound (by kernel_rfl)
theorem h149 : FunIn Tryz.prog ttr.get 149 p149 := funInB_sound (by kernel_rfl)
theorem h150 : FunIn Tryz.prog ttr.get 150 p150 := funInB_sound (by kernel_rfl)
theorem h151 : FunIn Tryz.prog ttr.get 151 p151 := funInB_sound (by kernel_rfl)
theorem h152 : FunIn Tryz.prog ttr.get 152 p152 := funInB_sound (by kernel_rfl)
theorem h153 : FunIn Tryz.prog ttr.get 153 p153 := funInB_sound (by kernel_rfl)
theorem h154 : FunIn Tryz.prog ttr.get 154 p154 := funInB_sound (by kernel_rfl)
theorem h155 : FunIn Tryz.prog ttr.get 155 p155 := funInB_sound (by kernel_rfl)
theorem h156 : FunIn Tryz.prog ttr.get 156 p156 := funInB_sound (by kernel_rfl)
theorem h157 : FunIn Tryz.prog ttr.get 157 p157 := funInB_sound (by kernel_rfl)
theorem h158 : FunIn Tryz.prog ttr.get 158 p158 := funInB_sound (by kernel_rfl)
theorem h159 : FunIn Tryz.prog ttr.get 159 p159 := funInB_sound (by kernel_rfl)
theorem h160 : FunIn Tryz.prog ttr.get 160 p160 := funInB_sound (by kernel_rfl)
theorem h161 : FunIn Tryz.prog ttr.get 161 p161 := funInB_sound (by kernel_rfl)
theorem h162 : FunIn Tryz.prog ttr.get 162 p162 := funInB_sound (by kernel_rfl)
theorem h163 : FunIn Tryz.prog ttr.get 163 p163 := funInB_sound (by kernel_rfl)
theorem h164 : FunIn Tryz.prog ttr.get 164 p164 := funInB_sound (by kernel_rfl)
theorem h165 : FunIn Tryz.prog ttr.get 165 p165 := funInB_sound (by kernel_rfl)
theorem h166 : FunIn Tryz.prog ttr.get 166 p166 := funInB_sound (by kernel_rfl)
theorem h167 : FunIn Tryz.prog ttr.get 167 p167 := funInB_sound (by kernel_rfl)
theorem h168 : FunIn Tryz.prog ttr.get 168 p168 := funInB_sound (by kernel_rfl)
theorem h169 : FunIn Tryz.prog ttr.get 169 p169 := funInB_sound (by kernel_rfl)
theorem h170 : FunIn Tryz.prog ttr.get 170 p170 := funInB_sound (by kernel_rfl)
theorem h171 : FunIn Tryz.prog ttr.get 171 p171 := funInB_sound (by kernel_rfl)
theorem h172 : FunIn Tryz.prog ttr.get 172 p172 := funInB_sound (by kernel_rfl)
theorem h173 : FunIn Tryz.prog ttr.get 173 p173 := funInB_sound (by kernel_rfl)
theorem h174 : FunIn Tryz.prog ttr.get 174 p174 := funInB_sound (by kernel_rfl)
theorem h175 : FunIn Tryz.prog ttr.get 175 p175 := funInB_sound (by kernel_rfl)
theorem h176 : FunIn Tryz.prog ttr.get 176 p176 := funInB_sound (by kernel_rfl)
theorem h177 : FunIn Tryz.prog ttr.get 177 p177 := funInB_sound (by kernel_rfl)
theorem h178 : FunIn Tryz.prog ttr.get 178 p178 := funInB_sound (by kernel_rfl)
theorem h179 : FunIn Tryz.prog ttr.get 179 p179 := funInB_sound (by kernel_rfl)
theorem h180 : FunIn Tryz.prog ttr.get 180 p180 := funInB_sound (by kernel_rfl)
theorem h181 : FunIn Tryz.prog ttr.get 181 p181 := funInB_sound (by kernel_rfl)
theorem h182 : FunIn Tryz.prog ttr.get 182 p182 := funInB_sound (by kernel_rfl)
theorem h183 : FunIn Tryz.prog ttr.get 183 p183 := funInB_sound (by kernel_rfl)
theorem h184 : FunIn Tryz.prog ttr.get 184 p184 := funInB_sound (by kernel_rfl)
theorem h185 : FunIn Tryz.prog ttr.get 185 p185 := funInB_sound (by kernel_rfl)
theorem h186 : FunIn Tryz.prog ttr.get 186 p186 := funInB_sound (by kernel_rfl)
theorem h187 : FunIn Tryz.prog ttr.get 187 p187 := funInB_sound (by kernel_rfl)
theorem h188 : FunIn Tryz.prog ttr.get 188 p188 := funInB_sound (by kernel_rfl)
theorem h189 : FunIn Tryz.prog ttr.get 189 p189 := funInB_sound (by kernel_rfl)
theorem h190 : FunIn Tryz.prog ttr.get 190 p190 := funInB_sound (by kernel_rfl)
theorem h191 : FunIn Tryz.prog ttr.get 191 p191 := funInB_sound (by kernel_rfl)
theorem h192 : FunIn Tryz.prog ttr.get 192 p192 := funInB_sound (by kernel_rfl)
theorem h193 : FunIn Tryz.prog ttr.get 193 p193 := funInB_sound (by kernel_rfl)
theorem h194 : FunIn Tryz.prog ttr.get 194 p194 := funInB_sound (by kernel_rfl)
theorem h195 : FunIn Tryz.prog ttr.get 195 p195 := funInB_sound (by kernel_rfl)
theorem h196 : FunIn Tryz.prog ttr.get 196 p196 := funInB_sound (by kernel_rfl)
theorem h197 : FunIn Tryz.prog ttr.get 197 p197 := funInB_sound (by kernel_rfl)
theorem h198 : FunIn Tryz.prog ttr.get 198 p198 := funInB_sound (by kernel_rfl)
theorem h199 : FunIn Tryz.prog ttr.get 199 p199 := funInB_sound (by kernel_rfl)
theorem fns : ∀ f F, ftr.get f = some F → FunIn Tryz.prog ttr.get f F := fun f F h => TTr.All_at (p := FunIn Tryz.prog ttr.get) (t := ftr) (show ftr.All (FunIn Tryz.prog ttr.get) 1 0 from ⟨trivial, ⟨trivial, ⟨trivial, ⟨h7, ⟨h15, ⟨h31, ⟨trivial, ⟨h127, trivial, trivial⟩, ⟨h191, trivial, trivial⟩⟩, ⟨trivial, ⟨h159, trivial, trivial⟩, trivial⟩⟩, ⟨h47, ⟨h79, ⟨h143, trivial, trivial⟩, trivial⟩, ⟨h111, ⟨h175, trivial, trivial⟩, trivial⟩⟩⟩, ⟨h23, ⟨trivial, ⟨h71, ⟨h135, trivial, trivial⟩, ⟨h199, trivial, trivial⟩⟩, ⟨h103, ⟨h167, trivial, trivial⟩, trivial⟩⟩, ⟨h55, ⟨h87, ⟨h151, trivial, trivial⟩, trivial⟩, ⟨h119, ⟨h183, trivial, trivial⟩, trivial⟩⟩⟩⟩, ⟨h11, ⟨h19, ⟨h35, ⟨h67, ⟨h131, trivial, trivial⟩, ⟨h195, trivial, trivial⟩⟩, ⟨h99, ⟨h163, trivial, trivial⟩, trivial⟩⟩, ⟨h51, ⟨h83, ⟨h147, trivial, trivial⟩, trivial⟩, ⟨h115, ⟨h179, trivial, trivial⟩, trivial⟩⟩⟩, ⟨trivial, ⟨trivial, ⟨h75, trivial, trivial⟩, ⟨h107, ⟨h171, trivial, trivial⟩, trivial⟩⟩, ⟨h59, ⟨h91, ⟨h155, trivial, trivial⟩, trivial⟩, ⟨h123, ⟨h187, trivial, trivial⟩, trivial⟩⟩⟩⟩⟩, ⟨trivial, ⟨trivial, ⟨trivial, ⟨h33, ⟨trivial, ⟨h129, trivial, trivial⟩, ⟨h193, trivial, trivial⟩⟩, ⟨h97, ⟨h161, trivial, trivial⟩, trivial⟩⟩, ⟨trivial, ⟨h81, ⟨h145, trivial, trivial⟩, trivial⟩, ⟨h113, ⟨h177, trivial, trivial⟩, trivial⟩⟩⟩, ⟨trivial, ⟨trivial, ⟨h73, ⟨h137, trivial, trivial⟩, trivial⟩, ⟨h105, ⟨h169, trivial, trivial⟩, trivial⟩⟩, ⟨h57, ⟨h89, ⟨h153, trivial, trivial⟩, trivial⟩, ⟨h121, ⟨h185, trivial, trivial⟩, trivial⟩⟩⟩⟩, ⟨trivial, ⟨h21, ⟨trivial, ⟨trivial, ⟨h133, trivial, trivial⟩, ⟨h197, trivial, trivial⟩⟩, ⟨h101, ⟨h165, trivial, trivial⟩, trivial⟩⟩, ⟨h53, ⟨h85, ⟨h149, trivial, trivial⟩, trivial⟩, ⟨h117, ⟨h181, trivial, trivial⟩, trivial⟩⟩⟩, ⟨trivial, ⟨h45, ⟨h77, ⟨h141, trivial, trivial⟩, trivial⟩, ⟨h109, ⟨h173, trivial, trivial⟩, trivial⟩⟩, ⟨h61, ⟨trivial, ⟨h157, trivial, trivial⟩, trivial⟩, ⟨h125, ⟨h189, trivial, trivial⟩, trivial⟩⟩⟩⟩⟩⟩, ⟨trivial, ⟨trivial, ⟨trivial, ⟨trivial, ⟨h32, ⟨trivial, ⟨h128, trivial, trivial⟩, ⟨h192, trivial, trivial⟩⟩, ⟨h96, ⟨h160, trivial, trivial⟩, trivial⟩⟩, ⟨h48, ⟨h80, ⟨h144, trivial, trivial⟩, trivial⟩, ⟨h112, ⟨h176, trivial, trivial⟩, trivial⟩⟩⟩, ⟨trivial, ⟨trivial, ⟨h72, ⟨h136, trivial, trivial⟩, trivial⟩, ⟨h104, ⟨h168, trivial, trivial⟩, trivial⟩⟩, ⟨h56, ⟨h88, ⟨h152, trivial, trivial⟩, trivial⟩, ⟨trivial, ⟨h184, trivial, trivial⟩, trivial⟩⟩⟩⟩, ⟨h12, ⟨trivial, ⟨h36, ⟨trivial, ⟨h132, trivial, trivial⟩, ⟨h196, trivial, trivial⟩⟩, ⟨h100, ⟨h164, trivial, trivial⟩, trivial⟩⟩, ⟨h52, ⟨h84, ⟨h148, trivial, trivial⟩, trivial⟩, ⟨h116, ⟨h180, trivial, trivial⟩, trivial⟩⟩⟩, ⟨trivial, ⟨trivial, trivial, ⟨h108, ⟨h172, trivial, trivial⟩, trivial⟩⟩, ⟨h60, ⟨h92, ⟨h156, trivial, trivial⟩, trivial⟩, ⟨h124, ⟨h188, trivial, trivial⟩, trivial⟩⟩⟩⟩⟩, ⟨trivial, ⟨trivial, ⟨h18, ⟨h34, ⟨h66, ⟨h130, trivial, trivial⟩, ⟨h194, trivial, trivial⟩⟩, ⟨h98, ⟨h162, trivial, trivial⟩, trivial⟩⟩, ⟨h50, ⟨h82, ⟨h146, trivial, trivial⟩, trivial⟩, ⟨h114, ⟨h178, trivial, trivial⟩, trivial⟩⟩⟩, ⟨h26, ⟨trivial, ⟨h74, ⟨h138, trivial, trivial⟩, trivial⟩, ⟨h106, ⟨h170, trivial, trivial⟩, trivial⟩⟩, ⟨h58, ⟨h90, ⟨h154, trivial, trivial⟩, trivial⟩, ⟨h122, ⟨h186, trivial, trivial⟩, trivial⟩⟩⟩⟩, ⟨h14, ⟨trivial, ⟨trivial, ⟨h70, ⟨h134, trivial, trivial⟩, ⟨h198, trivial, trivial⟩⟩, ⟨h102, ⟨h166, trivial, trivial⟩, trivial⟩⟩, ⟨h54, ⟨h86, ⟨h150, trivial, trivial⟩, trivial⟩, ⟨h118, ⟨h182, trivial, trivial⟩, trivial⟩⟩⟩, ⟨h30, ⟨trivial, ⟨h78, ⟨h142, trivial, trivial⟩, trivial⟩, ⟨h110, ⟨h174, trivial, trivial⟩, trivial⟩⟩, ⟨trivial, ⟨trivial, ⟨h158, trivial, trivial⟩, trivial⟩, ⟨h126, ⟨h190, trivial, trivial⟩, trivial⟩⟩⟩⟩⟩⟩⟩) h
theorem mixed : Tryz.prog.follows .mixedOrders = true := by kernel_rfl

end Go.Aw.C07

/- Closed calls of the law DenoteGreedy. -/
namespace Go.Aw.C07
open Go Go.Aw Go.Proofs

def u8s (l : List Nat) : List AVal := l.map fun n => .int .u8 (Int.ofNat n)
def utf8First : List Nat := List.replicate 128 0xF0 ++ List.replicate 66 0xF1 ++ List.replicate 30 2 ++ [0x13] ++ List.replicate 12 3 ++ [0x23, 3, 3, 0x34, 4, 4, 4, 0x44] ++ List.replicate 11 0xF1
def utf8Acc : List Nat := [0x80, 0xBF, 0xA0, 0xBF, 0x80, 0x9F, 0x90, 0xBF, 0x80, 0x8F] ++ List.replicate 22 0
def Γu : Globs := fun n => match n with
  | 0 => some (u8s utf8First)
  | 1 => some (u8s utf8Acc)
  | _ => none

theorem flatΓ : FlatG Γu := FlatG.of (G := [(0, u8s utf8First), (1, u8s utf8Acc)]) (by kernel_rfl) (by
  intro gi cs h
  unfold Γu at h
  split at h
  · cases h; exact .head _
  · cases h; exact .tail _ (.head _)
  · cases h)

theorem backs : FunIn Tryz.prog ttr.get 87 (bwd 7) := funInB_sound (by kernel_rfl)
def bk7 (f : Nat) : Option Nat := bif Nat.beq f 87 then some 7 else none
theorem bk7_ok : ∀ f es, bk7 f = some es → FunIn Tryz.prog ttr.get f (bwd es) := by
  intro f es h
  unfold bk7 at h
  cases hb : Nat.beq f 87 with
  | true => rw [hb] at h; cases h; rw [Nat.eq_of_beq_eq_true hb]; exact backs
  | false => rw [hb] at h; cases h

def tb0 : Tb := ⟨ftr.get, bk7, fun _ _ => none⟩
theorem tb0_ok : TbOk Γu Tryz.prog ttr.get tb0 := ⟨fns, bk7_ok, fun _ _ _ h => by cases h⟩

end Go.Aw.C07
