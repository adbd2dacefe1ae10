/- Parts of the proof. -/
import Derived.Test.YtjnemlopjhdkjaaDoorProg
import Derived.KernelRfl
import Derived.Test.YtjnemlopjhdkjaaDoorQAD
import Derived.Lib.MapLaws
import Derived.Lib.TrimU
import Derived.Lib.TrimUEq
open Go Go.Lf
set_option maxRecDepth 10000
namespace Go.Fn
abbrev xY0:Lf.Ty:=(.pr .str (.pr (.sl (.int .i64)) .unit))
abbrev xY1:Lf.Ty:=(.pr (.int .i64) (.pr (.int .i64) .unit))
abbrev xY2:Lf.Ty:=(.pr (.int .i32) (.pr (.int .i32) .unit))
abbrev xT3:Type:=((List (UInt8))×((List (Int))×(Unit)))
abbrev xT4:Type:=(List ((Int)×((Int)×((Int)×(Unit)))))
abbrev xY5:Lf.Ty:=(.st (.pr (.int .u8) (.pr (.int .u8) .unit)))
abbrev xT6:Type:=((List (UInt8))×((Int)×((Int)×(Unit))))
abbrev xT7:Type:=((Int)×((Int)×((List (UInt8))×(Unit))))
abbrev xT8:Type:=((Int)×((Int)×((Int)×((Int)×(Unit)))))
abbrev xT9:Type:=(((Int)×((Int)×(Unit)))×((Int)×(Unit)))
abbrev xT10:Type:=(((Int)×((Int)×((Int)×(Unit))))×(Unit))
abbrev xT11:Type:=((Int)×((Int)×((Int)×((Bool)×(Unit)))))
abbrev xY12:Lf.Ty:=(.pr (.int .i64) (.pr (.int .i64) (.pr .str .unit)))
abbrev xY13:Lf.Ty:=(.pr (.int .i64) (.pr (.int .i64) (.pr .bool .unit)))
abbrev xT14:Type:=((List ((Int)×((Int)×(Unit))))×((Bool)×(Unit)))
abbrev xY15:Lf.Ty:=(.st (.pr (.int .i64) xY1))
abbrev xT16:Type:=(((Int)×xT8)×(Unit))
abbrev xT17:Type:=(((Int)×((Int)×(Unit)))×(((Int)×((Int)×(Unit)))×(Unit)))
abbrev xY18:Lf.Ty:=(.pr (.int .i32) xY13)
abbrev xY19:Lf.Ty:=(.pr (.int .i64) (.pr (.int .i64) xY0))
abbrev xT20:Type:=((List (UInt8))×((Int)×xT9))
abbrev xT21:Type:=((Int)×((Int)×((Int)×xT8)))
abbrev xY22:Lf.Ty:=(.pr (.st xY1) (.pr (.int .i64) .unit))
abbrev xY23:Lf.Ty:=(.pr (.int .i64) (.pr (.int .i64) xY1))
abbrev xY24:Lf.Ty:=(.pr (.sl (.st xY1)) (.pr .bool .unit))
abbrev xY25:Lf.Ty:=(.st xY18)
abbrev xY26:Lf.Ty:=(.pr (.rw 99 (.st xY1)) (.pr .bool .unit))
abbrev xT27:Type:=((List (UInt8))×((List (UInt8))×xT10))
abbrev xY28:Lf.Ty:=(.pr .str (.pr xY15 .unit))
abbrev xT29:Type:=((Int)×((Int)×xT21))
abbrev xT30:Type:=(List (List (List xT20)))
abbrev xT31:Type:=(((Int)×((Int)×(Unit)))×xT17)
abbrev xY32:Lf.Ty:=(.pr .str xY28)
abbrev xY33:Lf.Ty:=(.st (.pr (.int .i64) xY23))
abbrev xT34:Type:=((Int)×((List xT20)×(Unit)))
abbrev xY35:Lf.Ty:=(.st xY32)
abbrev xY36:Lf.Ty:=(.pr .str (.pr (.int .i64) xY22))
abbrev xT37:Type:=((Int)×xT29)
abbrev xY38:Lf.Ty:=(.sl xY35)
abbrev xT39:Type:=((List (List xT20))×((Int)×(Unit)))
abbrev xY40:Lf.Ty:=(.pr (.st xY1) (.pr (.st xY1) .unit))
abbrev xY41:Lf.Ty:=(.pr (.int .i64) (.pr (.int .i64) xY23))
abbrev xT42:Type:=((List xT20)×((Int)×((Unit)×(Unit))))
abbrev xT43:Type:=((Int)×xT37)
abbrev xY44:Lf.Ty:=(.rw 45 (.sl (.st xY36)))
abbrev xT45:Type:=(((Int)×((Int)×(Unit)))×xT31)
abbrev xY46:Lf.Ty:=(.pr (.int .i64) xY41)
abbrev xY47:Lf.Ty:=(.pr (.mr 49 (.st xY36)) .unit)
abbrev xY48:Lf.Ty:=(.rw 26 (.sl (.sl (.st xY36))))
abbrev xY49:Lf.Ty:=(.pr (.dead 49 (.st xY36)) .unit)
abbrev xT50:Type:=((Int)×((Int)×xT43))
abbrev xY51:Lf.Ty:=(.pr (.int .u8) (.pr (.int .u8) (.pr (.int .u8) (.pr (.int .u8) (.pr (.int .u8) (.pr (.int .u8) (.pr (.int .u8) (.pr (.int .u8) .unit))))))))
abbrev xY52:Lf.Ty:=(.pr (.int .i64) xY46)
abbrev xT53:Type:=((List ((Int)×((Int)×(Unit))))×xT39)
abbrev xY54:Lf.Ty:=(.pr (.sl (.sl (.st xY36))) (.pr (.int .i64) .unit))
abbrev xT55:Type:=((Int)×((Int)×xT50))
abbrev xY56:Lf.Ty:=(.pr xY44 (.pr (.int .i64) .unit))
abbrev xT57:Type:=(((Int)×((Int)×(Unit)))×xT45)
abbrev xT58:Type:=((Int)×xT55)
abbrev xY59:Lf.Ty:=(.pr (.st xY1) xY40)
abbrev xY60:Lf.Ty:=(.pr (.sl (.st xY23)) xY24)
abbrev xT61:Type:=((Int)×xT58)
abbrev xY62:Lf.Ty:=(.pr (.sl (.st xY23)) xY26)
abbrev xY63:Lf.Ty:=(.pr (.int .i64) (.pr (.int .i64) xY52))
abbrev xT64:Type:=(((Int)×xT8)×(((Int)×xT8)×xT16))
abbrev xT65:Type:=(((Int)×((Int)×(Unit)))×xT57)
abbrev xT66:Type:=((Int)×((Int)×xT61))
abbrev xT67:Type:=((List (List xT20))×((List xT8)×xT14))
abbrev xY68:Lf.Ty:=(.pr (.sl (.st xY1)) xY54)
abbrev xT69:Type:=((Int)×((Int)×xT66))
abbrev xY70:Lf.Ty:=(.pr (.sl (.st xY1)) xY56)
abbrev xY71:Lf.Ty:=(.pr (.st xY1) xY59)
abbrev xY72:Lf.Ty:=(.pr (.int .i64) (.pr (.int .i64) xY63))
abbrev xY73:Lf.Ty:=(.pr xY33 (.pr xY33 .unit))
abbrev xT74:Type:=(((Int)×((Int)×(Unit)))×xT65)
abbrev xT75:Type:=((Int)×xT69)
abbrev xT76:Type:=((Int)×(xT67×(Unit)))
abbrev xT77:Type:=((Int)×xT75)
abbrev xY78:Lf.Ty:=(.pr (.int .i64) xY72)
abbrev xT79:Type:=((List (List (UInt8)))×((Int)×xT67))
abbrev xT80:Type:=(((Int)×((Int)×(Unit)))×xT74)
abbrev xT81:Type:=((Int)×((Int)×xT77))
abbrev xY82:Lf.Ty:=(.pr (.int .i64) xY78)
abbrev xT83:Type:=((Int)×((List (Int))×((List (List (UInt8)))×xT67)))
abbrev xY84:Lf.Ty:=(.pr (.sl (.st xY36)) (.pr (.int .i64) (.pr (.sl (.st xY36)) .unit)))
abbrev xT85:Type:=((Int)×((Int)×xT81))
abbrev xY86:Lf.Ty:=(.pr (.int .u8) (.pr (.int .u8) (.pr (.int .u8) (.pr (.int .u8) (.pr (.int .u8) (.pr (.int .u8) (.pr (.int .u8) (.pr (.int .u8) xY51))))))))
abbrev xY87:Lf.Ty:=(.pr (.rw 49 (.st xY36)) (.pr (.int .i64) xY47))
abbrev xY88:Lf.Ty:=(.pr (.rw 49 (.st xY36)) (.pr (.int .i64) xY49))
abbrev xT89:Type:=(((Int)×((Int)×(Unit)))×xT80)
abbrev xT90:Type:=((Int)×xT85)
abbrev xT91:Type:=((List (List xT20))×((List xT20)×xT34))
abbrev xY92:Lf.Ty:=(.pr (.int .i64) (.pr (.int .i64) xY82))
abbrev xT93:Type:=((Int)×xT90)
abbrev xY94:Lf.Ty:=(.pr (.sl (.sl (.st xY36))) xY60)
abbrev xY95:Lf.Ty:=(.pr xY44 xY62)
abbrev xT96:Type:=(((Int)×xT8)×(((Int)×xT8)×xT64))
abbrev xT97:Type:=(((Int)×((Int)×(Unit)))×xT89)
abbrev xT98:Type:=((Int)×((Int)×xT93))
abbrev xT99:Type:=((List xT20)×xT76)
abbrev xT100:Type:=(Option ((List xT53)×xT53))
abbrev xY101:Lf.Ty:=(.pr (.st xY95) .unit)
abbrev xY102:Lf.Ty:=(.pr (.st xY1) (.pr (.st xY1) xY71))
abbrev xY103:Lf.Ty:=(.pr (.int .i64) (.pr (.int .i64) xY92))
abbrev xY104:Lf.Ty:=(.pr (.int .i64) xY101)
abbrev xY105:Lf.Ty:=(.pr (.int .i64) xY103)
abbrev xT106:Type:=(((Int)×((Int)×(Unit)))×xT97)
abbrev xT107:Type:=(((Int)×xT98)×((Int)×(Unit)))
abbrev xY108:Lf.Ty:=(.pr (.int .i64) xY105)
abbrev xT109:Type:=(((Int)×((Int)×(Unit)))×xT106)
abbrev xY110:Lf.Ty:=(.pr (.int .i64) (.pr (.int .i64) xY108))
abbrev xT111:Type:=(((Int)×((Int)×(Unit)))×xT109)
abbrev xY112:Lf.Ty:=(.pr (.int .u8) (.pr (.int .u8) (.pr (.int .u8) (.pr (.int .u8) (.pr (.int .u8) (.pr (.int .u8) (.pr (.int .u8) (.pr (.int .u8) xY86))))))))
abbrev xY113:Lf.Ty:=(.pr (.int .i64) (.pr xY44 xY87))
abbrev xY114:Lf.Ty:=(.pr (.int .i64) (.pr xY44 xY88))
abbrev xT115:Type:=(((Int)×xT8)×(((Int)×xT8)×xT96))
abbrev xY116:Lf.Ty:=(.pr (.st xY1) (.pr (.st xY1) xY102))
abbrev xY117:Lf.Ty:=(.pr (.int .i64) (.pr (.int .i64) xY110))
abbrev xY118:Lf.Ty:=(.pr xY33 (.pr xY33 xY73))
abbrev xT119:Type:=(((Int)×((Int)×(Unit)))×xT111)
abbrev xY120:Lf.Ty:=(.ml 125 (.st xY68) (.st xY70))
abbrev xY121:Lf.Ty:=(.pr (.int .i64) xY117)
abbrev xT122:Type:=(((Int)×((Int)×(Unit)))×xT119)
abbrev xY123:Lf.Ty:=(.pr (.int .i64) xY121)
abbrev xY124:Lf.Ty:=(.pr (.rw 49 (.st xY36)) xY104)
abbrev xY125:Lf.Ty:=(.pr (.st xY1) xY116)
abbrev xT126:Type:=(((Int)×((Int)×(Unit)))×xT122)
abbrev xY127:Lf.Ty:=(.pr (.int .i64) (.pr (.int .i64) xY123))
abbrev xT128:Type:=(((Int)×((Int)×(Unit)))×xT126)
abbrev xY129:Lf.Ty:=(.pr (.st xY1) xY125)
abbrev xY130:Lf.Ty:=(.pr (.int .i64) (.pr (.int .i64) xY127))
abbrev xT131:Type:=(((Int)×xT8)×(((Int)×xT8)×xT115))
abbrev xY132:Lf.Ty:=(.pr (.int .i64) xY130)
abbrev xT133:Type:=(((Int)×((Int)×(Unit)))×xT128)
abbrev xY134:Lf.Ty:=(.pr (.int .i64) xY132)
abbrev xT135:Type:=(((Int)×((Int)×(Unit)))×xT133)
abbrev xY136:Lf.Ty:=(.pr (.st xY134) (.pr (.int .i64) .unit))
abbrev xT137:Type:=(((Int)×((Int)×(Unit)))×xT135)
abbrev xT138:Type:=(xT100×xT99)
abbrev xY139:Lf.Ty:=(.pr (.st xY1) (.pr (.st xY1) xY129))
abbrev xY140:Lf.Ty:=(.pr xY33 (.pr xY33 xY118))
abbrev xT141:Type:=(((Int)×((Int)×(Unit)))×xT137)
abbrev xT142:Type:=(((Int)×xT8)×(((Int)×xT8)×xT131))
abbrev xT143:Type:=(((Int)×((Int)×(Unit)))×xT141)
abbrev xY144:Lf.Ty:=(.pr (.sl (.st xY68)) (.pr (.sl (.st xY36)) (.pr (.int .i64) (.pr (.st xY94) .unit))))
abbrev xT145:Type:=((Int)×((Int)×(xT4×xT138)))
abbrev xT146:Type:=(((Int)×((Int)×(Unit)))×xT143)
abbrev xT147:Type:=(((Int)×((Int)×(Unit)))×xT146)
abbrev xY148:Lf.Ty:=(.pr (.st xY1) (.pr (.st xY1) xY139))
abbrev xY149:Lf.Ty:=(.pr (.sl xY15) xY144)
abbrev xT150:Type:=(((Int)×((Int)×(Unit)))×xT147)
abbrev xY151:Lf.Ty:=(.pr (.int .i64) xY149)
abbrev xT152:Type:=(((Int)×xT8)×(((Int)×xT8)×xT142))
abbrev xY153:Lf.Ty:=(.pr (.int .i64) xY151)
abbrev xT154:Type:=(((Int)×((Int)×(Unit)))×xT150)
abbrev xY155:Lf.Ty:=(.pr (.st xY1) xY148)
abbrev xT156:Type:=(((Int)×((Int)×(Unit)))×xT154)
abbrev xY157:Lf.Ty:=(.pr (.st xY1) xY155)
abbrev xY158:Lf.Ty:=(.pr xY33 (.pr xY33 xY140))
abbrev xT159:Type:=(((Int)×((Int)×(Unit)))×xT156)
abbrev xT160:Type:=(((Int)×((Int)×(Unit)))×xT159)
abbrev xT161:Type:=(((Int)×xT8)×(((Int)×xT8)×xT152))
abbrev xY162:Lf.Ty:=(.pr xY120 xY124)
abbrev xT163:Type:=(((Int)×((Int)×(Unit)))×xT160)
abbrev xT164:Type:=(((Int)×((Int)×(Unit)))×xT163)
abbrev xY165:Lf.Ty:=(.pr (.st xY1) (.pr (.st xY1) xY157))
abbrev xT166:Type:=(((Int)×((Int)×(Unit)))×xT164)
abbrev xY167:Lf.Ty:=(.pr (.mr 120 xY15) xY162)
abbrev xY168:Lf.Ty:=(.pr (.int .i64) xY167)
abbrev xT169:Type:=(((Int)×xT8)×(((Int)×xT8)×xT161))
abbrev xY170:Lf.Ty:=(.pr (.int .i64) xY168)
abbrev xY171:Lf.Ty:=(.pr (.st xY1) (.pr (.st xY1) xY165))
abbrev xY172:Lf.Ty:=(.pr xY33 (.pr xY33 xY158))
abbrev xY173:Lf.Ty:=(.pr (.rw 76 xY15) xY170)
abbrev xY174:Lf.Ty:=(.pr (.st xY1) xY171)
abbrev xT175:Type:=(((Int)×xT8)×(((Int)×xT8)×xT169))
abbrev xY176:Lf.Ty:=(.pr (.st xY1) xY174)
abbrev xT177:Type:=(((Int)×xT8)×(((Int)×xT8)×xT175))
abbrev xY178:Lf.Ty:=(.pr (.st xY1) (.pr (.st xY1) xY176))
abbrev xY179:Lf.Ty:=(.pr xY33 (.pr xY33 xY172))
abbrev xY180:Lf.Ty:=(.pr (.st xY1) (.pr (.st xY1) xY178))
abbrev xT181:Type:=(((Int)×xT8)×(((Int)×xT8)×xT177))
abbrev xY182:Lf.Ty:=(.pr (.st xY1) xY180)
abbrev xY183:Lf.Ty:=(.pr (.st xY1) xY182)
abbrev xY184:Lf.Ty:=(.pr xY33 (.pr xY33 xY179))
abbrev xT185:Type:=(((Int)×xT8)×(((Int)×xT8)×xT181))
abbrev xY186:Lf.Ty:=(.pr (.st xY1) (.pr (.st xY1) xY183))
abbrev xT187:Type:=((((Int)×xT8)×xT185)×xT8)
abbrev xY188:Lf.Ty:=(.pr (.st xY1) (.pr (.st xY1) xY186))
abbrev xY189:Lf.Ty:=(.pr xY33 (.pr xY33 xY184))
abbrev xY190:Lf.Ty:=(.pr xY33 (.pr xY33 xY189))
abbrev xT191:Type:=((xT166×xT107)×(xT4×xT145))
abbrev xT192:Type:=(xT7×xT191)
abbrev xY193:Lf.Ty:=(.pr xY33 (.pr xY33 xY190))
abbrev xY194:Lf.Ty:=(.pr (.st xY188) xY136)
abbrev xY195:Lf.Ty:=(.st xY194)
abbrev xY196:Lf.Ty:=(.pr xY33 (.pr xY33 xY193))
abbrev xY197:Lf.Ty:=(.pr xY33 (.pr xY33 xY196))
abbrev xY198:Lf.Ty:=(.pr xY33 (.pr xY33 xY197))
abbrev xY199:Lf.Ty:=(.st (.pr (.st xY198) xY23))
abbrev xY200:Lf.Ty:=(.pr (.st xY12) (.pr xY195 xY173))
abbrev xY201:Lf.Ty:=(.st xY200)
def Tys:List (Nat×Lf.TyI):=[(2,⟨(.int .i64),0,0⟩),
 (3,⟨(.int .i64),0,0⟩),
 (4,⟨.bool,0,0⟩),
 (5,⟨(.int .u8),0,0⟩),
 (6,⟨(.int .u8),0,0⟩),
 (7,⟨(.st (.pr (.int .i64) (.pr (.int .i64) (.pr .bool (.pr (.int .u8) .unit))))),0,0⟩),
 (8,⟨(.st (.pr (.int .i64) (.pr (.int .i64) (.pr .bool (.pr (.int .u8) .unit))))),0,0⟩),
 (9,⟨.str,0,0⟩),
 (10,⟨.str,0,0⟩),
 (11,⟨.str,0,0⟩),
 (12,⟨(.int .u64),0,0⟩),
 (13,⟨(.st (.pr .str (.pr (.int .u64) .unit))),0,0⟩),
 (14,⟨(.st (.pr .str (.pr (.int .u64) .unit))),0,0⟩),
 (21,⟨(.int .i32),0,0⟩),
 (22,⟨xY38,78,56⟩),
 (23,⟨(.sl (.st xY19)),40,56⟩),
 (26,⟨(.sl (.sl (.st xY36))),45,24⟩),
 (27,⟨(.sl (.st xY23)),59,32⟩),
 (28,⟨(.sl (.st xY1)),99,16⟩),
 (29,⟨(.st xY94),0,0⟩),
 (30,⟨(.st xY94),0,0⟩),
 (31,⟨(.int .i64),0,0⟩),
 (35,⟨(.sl .str),9,16⟩),
 (36,⟨(.sl (.int .i64)),3,8⟩),
 (37,⟨(.sl .bool),4,1⟩),
 (38,⟨(.int .i64),0,0⟩),
 (39,⟨(.st xY19),0,0⟩),
 (40,⟨(.st xY19),0,0⟩),
 (41,⟨(.sl (.st (.pr .str xY1))),44,32⟩),
 (43,⟨(.st (.pr .str xY1)),0,0⟩),
 (44,⟨(.st (.pr .str xY1)),0,0⟩),
 (45,⟨(.sl (.st xY36)),49,48⟩),
 (46,⟨(.st xY1),0,0⟩),
 (47,⟨(.st xY1),0,0⟩),
 (48,⟨(.st xY36),0,0⟩),
 (49,⟨(.st xY36),0,0⟩),
 (58,⟨(.st xY23),0,0⟩),
 (59,⟨(.st xY23),0,0⟩),
 (64,⟨(.st xY12),0,0⟩),
 (65,⟨(.st xY12),0,0⟩),
 (66,⟨(.st xY188),47,32⟩),
 (67,⟨(.st xY134),3,32⟩),
 (68,⟨xY195,0,0⟩),
 (69,⟨xY195,0,0⟩),
 (70,⟨(.sl xY15),76,24⟩),
 (71,⟨(.sl xY15),120,24⟩),
 (72,⟨(.sl (.st xY68)),125,56⟩),
 (73,⟨(.st (.pr (.st xY12) (.pr xY195 (.pr (.sl xY15) xY153)))),0,0⟩),
 (74,⟨(.st (.pr (.st xY12) (.pr xY195 (.pr (.sl xY15) xY153)))),0,0⟩),
 (75,⟨xY15,0,0⟩),
 (76,⟨xY15,0,0⟩),
 (77,⟨xY35,0,0⟩),
 (78,⟨xY35,0,0⟩),
 (82,⟨(.sl xY25),86,32⟩),
 (85,⟨xY25,0,0⟩),
 (86,⟨xY25,0,0⟩),
 (89,⟨(.sl (.int .u8)),5,1⟩),
 (97,⟨(.int .u64),0,0⟩),
 (98,⟨(.st xY1),0,0⟩),
 (99,⟨(.st xY1),0,0⟩),
 (104,⟨(.ptr xY199),0,0⟩),
 (105,⟨xY33,0,0⟩),
 (106,⟨xY33,0,0⟩),
 (107,⟨(.st xY198),106,26⟩),
 (108,⟨xY199,0,0⟩),
 (109,⟨xY199,0,0⟩),
 (115,⟨(.sl (.st (.pr .str xY1))),117,32⟩),
 (117,⟨(.st (.pr .str xY1)),0,0⟩),
 (119,⟨xY15,0,0⟩),
 (120,⟨xY15,0,0⟩),
 (121,⟨(.sl (.st xY1)),148,16⟩),
 (124,⟨(.st xY68),0,0⟩),
 (125,⟨(.st xY68),0,0⟩),
 (131,⟨(.ptr xY33),0,0⟩),
 (135,⟨(.ptr (.st xY12)),0,0⟩),
 (136,⟨(.ptr xY195),0,0⟩),
 (144,⟨(.ptr xY15),0,0⟩),
 (147,⟨(.st xY1),0,0⟩),
 (148,⟨(.st xY1),0,0⟩),
 (153,⟨(.st xY2),21,2⟩),
 (154,⟨(.st (.pr (.st xY2) (.pr (.st xY2) (.pr (.st xY2) (.pr (.st xY2) (.pr (.st xY2) (.pr (.st xY2) (.pr (.st xY2) (.pr (.st xY2) (.pr (.st xY2) (.pr (.st xY2) (.pr (.st xY2) (.pr (.st xY2) (.pr (.st xY2) .unit)))))))))))))),153,13⟩),
 (156,⟨(.ptr (.st (.pr (.int .i64) (.pr (.sl (.sl (.st xY36))) xY84)))),0,0⟩),
 (157,⟨(.st (.pr (.int .i64) (.pr (.sl (.sl (.st xY36))) xY84))),0,0⟩),
 (158,⟨(.st (.pr (.int .i64) (.pr (.sl (.sl (.st xY36))) xY84))),0,0⟩),
 (163,⟨(.sl (.sl (.sl (.st xY36)))),26,24⟩),
 (168,⟨(.int .u64),0,0⟩),
 (169,⟨xY5,0,0⟩),
 (170,⟨xY5,0,0⟩),
 (171,⟨(.st (.pr xY5 (.pr xY5 (.pr xY5 (.pr xY5 (.pr xY5 (.pr xY5 (.pr xY5 (.pr xY5 (.pr xY5 (.pr xY5 (.pr xY5 (.pr xY5 (.pr xY5 (.pr xY5 (.pr xY5 (.pr xY5 .unit))))))))))))))))),170,16⟩),
 (173,⟨(.st xY112),5,24⟩),
 (180,⟨(.st (.pr (.int .u64) (.pr (.int .u64) (.pr (.int .u64) (.pr (.int .u64) (.pr (.int .u64) (.pr (.int .u64) (.pr (.int .u64) (.pr (.int .u64) (.pr (.int .u64) (.pr (.int .u64) (.pr (.int .u64) (.pr (.int .u64) (.pr (.int .u64) (.pr (.int .u64) (.pr (.int .u64) (.pr (.int .u64) (.pr (.int .u64) (.pr (.int .u64) (.pr (.int .u64) (.pr (.int .u64) .unit))))))))))))))))))))),97,20⟩),
 (181,⟨(.int .u32),0,0⟩),
 (186,⟨(.st (.pr (.int .u8) (.pr (.int .u8) (.pr (.int .u8) (.pr (.int .u8) (.pr (.int .u8) (.pr (.int .u8) (.pr (.int .u8) (.pr (.int .u8) xY112))))))))),5,32⟩),
 (193,⟨(.int .u8),0,0⟩),
 (194,⟨(.int .u8),0,0⟩),
 (197,⟨(.int .i32),0,0⟩)]
theorem Tys_ok: ∀ id i,Lf.look Tys id=some i→Lf.TyOk Go.Proofs.Tryd.prog id i:=Lf.tysB_ok (by kernel_rfl)
def TysEq:List (Nat×Lf.Ty):=[(49,xY36),(59,xY23),(99,xY1)]
theorem TysEq_ok: ∀ id t,Lf.look TysEq id=some t→Lf.eqTop Go.Proofs.Tryd.prog id t=true:=Lf.eqsB_ok (by kernel_rfl)
def TysIm:List (Nat×List (Nat×Bool)):=[]
theorem TysIm_ok: ∀ a l,Lf.look TysIm a=some l→Lf.ImOk Go.Proofs.Tryd.prog a l:=Lf.imsB_ok (by kernel_rfl)
end Go.Fn
open Go Go.Lf
set_option maxRecDepth 10000
namespace Go.Fn
noncomputable def text_Width_rRun:Lf.RunS:=⟨⟨70,Tys,[],[],[],[],[],TysEq,[],some 4000,TysIm,[]⟩,(Go.Proofs.Tryd.f56.body).getD .skip, .seq .no (.seq (.join (.more .ret ⟨[],[],[(2, .int .i64)],[],[]⟩ (.one .nrm ⟨[0],[],[],[],[]⟩)) (.seq (.join (.more .nrm ⟨[0],[],[],[],[]⟩ (.one (.ext 0) ⟨[0],[],[],[],[]⟩)) (.seq (.seq (.seq (.join (.one .nrm ⟨[0],[],[(6, .bool)],[],[]⟩) .no) .no) (.seq (.seq (.join (.one .nrm ⟨[0],[],[(13, .bool)],[],[]⟩) .no) .no) (.seq (.seq (.join (.one .nrm ⟨[0],[],[(20, .bool)],[],[]⟩) .no) .no) (.seq (.seq (.join (.one .nrm ⟨[0],[],[(27, .bool)],[],[]⟩) .no) .no) (.seq (.join (.one .nrm ⟨[0],[],[(34, .bool)],[],[]⟩) .no) .no))))) .no)) .no)) (.seq .no (.seq (.seq .no (.loop ⟨[0,55],[],[(56, .int .i64)],[],[]⟩ (.more .ret ⟨[],[],[(2, .int .i64)],[],[]⟩ (.one (.ext 6) ⟨[],[],[],[],[]⟩)) (.seq .no (.seq .no (.seq (.seq .no (.seq (.join (.one .nrm ⟨[0,55,56],[],[(68, .bool)],[],[]⟩) .no) .no)) .no))))) .no))),[.val (.int .i32)],[(.int .i64)],[.tmp 2]⟩
noncomputable def text_Width_r:=text_Width_rRun.F
noncomputable def text_Width_rEnt:Nat×Lf.Entry:=(56,⟨[.val (.int .i32)],[(.int .i64)],text_Width_r⟩)
theorem text_Width_r_ok:Lf.EntryOk Go.Proofs.Tryd.prog GG 56 text_Width_rEnt.2:=Lf.run_ok text_Width_rRun Go.Proofs.Tryd.f56 (by kernel_rfl) ⟨Tys_ok,Lf.FnsOk.look .nil,Lf.IpsOk.look .nil,TysEq_ok,TysIm_ok,Lf.IvsOk.look .nil,Lf.FxsOk.look .nil⟩ (by kernel_rfl) (by kernel_rfl) (by kernel_rfl) (by kernel_rfl) (by kernel_rfl) (by kernel_rfl) (by kernel_rfl)
end Go.Fn
/- text.Width, run with a bound on its rounds. -/
namespace Go.Fn
open Go Go.Lf
noncomputable def text_Width (a0:Int):Option Int:=text_Width_r a0
noncomputable def text_WidthEnt:Nat×Entry:=(56,⟨[.val (.int .i32)],[.int .i64],fun z=>text_Width z⟩)
theorem text_Width_ok:EntryOk Go.Proofs.Tryd.prog GG 56 text_WidthEnt.2:=text_Width_r_ok
end Go.Fn
open Go Go.Lf
set_option maxRecDepth 10000
namespace Go.Fn
noncomputable def table_kindCtx:Lf.Ctx:=⟨11,Tys,[],[],[],[],[],TysEq,[],some 4611686018427387904,TysIm,[]⟩
noncomputable def table_kindCode:Go.Code:=(Go.Proofs.Tryd.f72.body).getD .skip
def table_kindAnn:Lf.Ann:= .no
noncomputable def table_kind (a0:(List (UInt8))×((Int)×xT9)):Option (Int):=
 bif (decide ((a0.1:List (UInt8))=((32:UInt8)::([]:List (UInt8))))) then some (0:Int)
 else bif (decide ((a0.1:List (UInt8))=((9:UInt8)::([]:List (UInt8))))) then some (1:Int)
 else bif (decide ((a0.1:List (UInt8))=((10:UInt8)::([]:List (UInt8))))) then some (2:Int)
 else some (3:Int)
theorem table_kind_eq (a0:(List (UInt8))×((Int)×xT9)):Lf.fnE table_kindCtx table_kindCode table_kindAnn [.val (.st xY36)] [(.int .i64)] [.tmp 2] (a0)=table_kind a0:=by kernel_rfl
noncomputable def table_kindEnt:Nat×Lf.Entry:=(72,⟨[.val (.st xY36)],[(.int .i64)],fun z=>table_kind z⟩)
theorem table_kind_ok:Lf.EntryOk Go.Proofs.Tryd.prog GG 72 table_kindEnt.2:=
 Lf.fn_ok (c:=table_kindCtx) (code:=table_kindCode) (an:=table_kindAnn) (slots:=[.tmp 2]) (fn:=Go.Proofs.Tryd.f72) (by kernel_rfl) ⟨Tys_ok,Lf.FnsOk.look .nil,Lf.IpsOk.look .nil,TysEq_ok,TysIm_ok,Lf.IvsOk.look .nil,Lf.FxsOk.look .nil⟩ (by kernel_rfl) (by kernel_rfl) (by kernel_rfl) (by kernel_rfl) (by kernel_rfl) (Nat.le_of_ble_eq_true rfl) (by simp [Lf.Ty.top]) (by simp [Lf.Ty.top]) fun z r h=>(table_kind_eq z).trans h
noncomputable def table_checkCtx:Lf.Ctx:=⟨30,Tys,[table_kindEnt],[],[],[],[],TysEq,[],some 4611686018427387904,TysIm,[]⟩
noncomputable def table_checkCode:Go.Code:=(Go.Proofs.Tryd.f69.body).getD .skip
def table_checkAnn:Lf.Ann:=(.seq .no (.seq (.seq .no (.loop ⟨[5,6],[],[(7,(.int .i64))],[],[]⟩ (.more (.ext 0) ⟨[],[],[],[],[]⟩ (.one .ret ⟨[],[],[(2,(.int .i64))],[],[]⟩)) (.seq .no (.seq .no (.seq (.seq .no (.seq (.join (.one .nrm ⟨[5,6,7],[],[(28, .bool)],[],[]⟩) .no) .no)) .no))))) .no))
noncomputable def table_check (a0:List xT20):Option (Int):=
 (Lf.loopU (σ:=Int) (κ:=(Unit)⊕(Int)) (fun z1=>
   bif (decide (z1<(((List.length a0):Nat):Int))) then ((Lf.idx a0 z1)).bind fun r2=>
   (((Go.Fn.table_kind r2)).bind fun r3=>
    bif (decide ((r3:Int)=(3:Int))) then bif (!(decide ((r2.1:List (UInt8))=([]:List (UInt8))))) then bif (decide ((r2.2.1:Int)≠(1:Int))) then some (decide ((r2.2.1:Int)≠(2:Int)))
    else some false
    else some true
    else some false).bind fun r4=>
   bif r4 then some (.inr (.inr (120:Int)))
   else some (.inl (Go.IntKind.wrap .i64 (z1+(1:Int))))
   else some (.inr (.inl ()))) (0:Int):Option ((Unit)⊕(Int))).bind fun r5=>
 Lf.onSum r5 (fun a6=>
 some (0:Int)) (fun b7=>
 some b7)
theorem table_check_eq (a0:List xT20):Lf.fnE table_checkCtx table_checkCode table_checkAnn [.val (.sl (.st xY36))] [(.int .i64)] [.tmp 2] (a0)=table_check a0:=by kernel_rfl
noncomputable def table_checkEnt:Nat×Lf.Entry:=(69,⟨[.val (.sl (.st xY36))],[(.int .i64)],fun z=>table_check z⟩)
theorem table_check_ok:Lf.EntryOk Go.Proofs.Tryd.prog GG 69 table_checkEnt.2:=
 Lf.fn_ok (c:=table_checkCtx) (code:=table_checkCode) (an:=table_checkAnn) (slots:=[.tmp 2]) (fn:=Go.Proofs.Tryd.f69) (by kernel_rfl) ⟨Tys_ok,Lf.FnsOk.look (.con table_kind_ok .nil),Lf.IpsOk.look .nil,TysEq_ok,TysIm_ok,Lf.IvsOk.look .nil,Lf.FxsOk.look .nil⟩ (by kernel_rfl) (by kernel_rfl) (by kernel_rfl) (by kernel_rfl) (by kernel_rfl) (Nat.le_of_ble_eq_true rfl) (by simp [Lf.Ty.top]) (by simp [Lf.Ty.top]) fun z r h=>(table_check_eq z).trans h
noncomputable def table_filler__endCtx:Lf.Ctx:=⟨24,Tys,[],[6],[],[(6,xY44)],[],TysEq,[],some 4611686018427387904,TysIm,[]⟩
noncomputable def table_filler__endCode:Go.Code:=(Go.Proofs.Tryd.f74.body).getD .skip
def table_filler__endAnn:Lf.Ann:=(.seq (.soup 10) .no)
noncomputable def table_filler__end (a0:(Int)×xT91):Option ((Int)×xT91):=
 ((Lf.app (24:Nat) a0.2.1 (a0.2.2.1::([]:List (List xT20))))).bind fun r1=>
 some (a0.1,(r1,(([]:List xT20),((0:Int),(([]:List xT20),a0.2.2.2.2.2)))))
theorem table_filler__end_eq (a0:(Int)×xT91):Lf.fnE table_filler__endCtx table_filler__endCode table_filler__endAnn [.obj 158 (.st xY113) (.st xY113) []] [] [] (a0)=table_filler__end a0:=by kernel_rfl
noncomputable def table_filler__endEnt:Nat×Lf.Entry:=(74,⟨[.obj 158 (.st xY113) (.st xY113) []],[],fun z=>table_filler__end z⟩)
theorem table_filler__end_ok:Lf.EntryOk Go.Proofs.Tryd.prog GG 74 table_filler__endEnt.2:=
 Lf.fn_ok (c:=table_filler__endCtx) (code:=table_filler__endCode) (an:=table_filler__endAnn) (slots:=[]) (fn:=Go.Proofs.Tryd.f74) (by kernel_rfl) ⟨Tys_ok,Lf.FnsOk.look .nil,Lf.IpsOk.look .nil,TysEq_ok,TysIm_ok,Lf.IvsOk.look .nil,Lf.FxsOk.look .nil⟩ (by kernel_rfl) (by kernel_rfl) (by kernel_rfl) (by kernel_rfl) (by kernel_rfl) (Nat.le_of_ble_eq_true rfl) (by simp [Lf.Ty.top]) (by simp [Lf.Ty.top]) fun z r h=>(table_filler__end_eq z).trans h
noncomputable def table_filler__putCtx:Lf.Ctx:=⟨23,Tys,[],[8],[],[(8,(.rw 49 (.st xY36)))],[],TysEq,[],some 4611686018427387904,TysIm,[]⟩
noncomputable def table_filler__putCode:Go.Code:=(Go.Proofs.Tryd.f82.body).getD .skip
def table_filler__putAnn:Lf.Ann:=(.seq .no (.seq (.soup 7) (.draw 9)))
noncomputable def table_filler__put (a0:(Int)×xT91) (a1:(List (UInt8))×((Int)×xT9)):Option ((Int)×xT91):=
 ((Lf.app (48:Nat) a0.2.2.1 (a1::([]:List xT20)))).bind fun r1=>
 some (Lf.u2 a0 (r1,((Go.IntKind.wrap .i64 (a0.2.2.2.1+a1.2.1)),a0.2.2.2.2)))
theorem table_filler__put_eq (a0:(Int)×xT91) (a1:(List (UInt8))×((Int)×xT9)):Lf.fnE table_filler__putCtx table_filler__putCode table_filler__putAnn [.obj 158 (.st xY113) (.st xY113) [], .val (.st xY36)] [] [] (a0,a1)=table_filler__put a0 a1:=by kernel_rfl
noncomputable def table_filler__putEnt:Nat×Lf.Entry:=(82,⟨[.obj 158 (.st xY113) (.st xY113) [], .val (.st xY36)],[],fun z=>table_filler__put z.1 z.2⟩)
theorem table_filler__put_ok:Lf.EntryOk Go.Proofs.Tryd.prog GG 82 table_filler__putEnt.2:=
 Lf.fn_ok (c:=table_filler__putCtx) (code:=table_filler__putCode) (an:=table_filler__putAnn) (slots:=[]) (fn:=Go.Proofs.Tryd.f82) (by kernel_rfl) ⟨Tys_ok,Lf.FnsOk.look .nil,Lf.IpsOk.look .nil,TysEq_ok,TysIm_ok,Lf.IvsOk.look .nil,Lf.FxsOk.look .nil⟩ (by kernel_rfl) (by kernel_rfl) (by kernel_rfl) (by kernel_rfl) (by kernel_rfl) (Nat.le_of_ble_eq_true rfl) (by simp [Lf.Ty.top]) (by simp [Lf.Ty.top]) fun z r h=>(table_filler__put_eq z.1 z.2).trans h
noncomputable def table_filler__putDCtx:Lf.Ctx:=⟨23,Tys,[],[8],[],[(8,(.rw 49 (.st xY36)))],[],TysEq,[],some 4611686018427387904,TysIm,[]⟩
noncomputable def table_filler__putDCode:Go.Code:=(Go.Proofs.Tryd.f82.body).getD .skip
def table_filler__putDAnn:Lf.Ann:=(.seq .no (.seq (.soup 7) (.draw 9)))
noncomputable def table_filler__putD (a0:(Int)×((List (List xT20))×xT42)) (a1:(List (UInt8))×((Int)×xT9)):Option ((Int)×((List (List xT20))×xT42)):=
 ((Lf.app (48:Nat) a0.2.2.1 (a1::([]:List xT20)))).bind fun r1=>
 some (Lf.u2 a0 (r1,((Go.IntKind.wrap .i64 (a0.2.2.2.1+a1.2.1)),a0.2.2.2.2)))
theorem table_filler__putD_eq (a0:(Int)×((List (List xT20))×xT42)) (a1:(List (UInt8))×((Int)×xT9)):Lf.fnE table_filler__putDCtx table_filler__putDCode table_filler__putDAnn [.obj 158 (.st xY114) (.st xY114) [], .val (.st xY36)] [] [] (a0,a1)=table_filler__putD a0 a1:=by kernel_rfl
noncomputable def table_filler__putDEnt:Nat×Lf.Entry:=(82,⟨[.obj 158 (.st xY114) (.st xY114) [], .val (.st xY36)],[],fun z=>table_filler__putD z.1 z.2⟩)
theorem table_filler__putD_ok:Lf.EntryOk Go.Proofs.Tryd.prog GG 82 table_filler__putDEnt.2:=
 Lf.fn_ok (c:=table_filler__putDCtx) (code:=table_filler__putDCode) (an:=table_filler__putDAnn) (slots:=[]) (fn:=Go.Proofs.Tryd.f82) (by kernel_rfl) ⟨Tys_ok,Lf.FnsOk.look .nil,Lf.IpsOk.look .nil,TysEq_ok,TysIm_ok,Lf.IvsOk.look .nil,Lf.FxsOk.look .nil⟩ (by kernel_rfl) (by kernel_rfl) (by kernel_rfl) (by kernel_rfl) (by kernel_rfl) (Nat.le_of_ble_eq_true rfl) (by simp [Lf.Ty.top]) (by simp [Lf.Ty.top]) fun z r h=>(table_filler__putD_eq z.1 z.2).trans h
noncomputable def table_filler__tabbedCtx:Lf.Ctx:=⟨34,Tys,[table_filler__endEnt,table_filler__putEnt],[],[],[],[],TysEq,[],some 4611686018427387904,TysIm,[]⟩
noncomputable def table_filler__tabbedCode:Go.Code:=(Go.Proofs.Tryd.f83.body).getD .skip
def table_filler__tabbedAnn:Lf.Ann:=(.seq .no (.seq .no (.seq .no (.seq .no (.seq .no (.loop ⟨[4],[(3, .ref 3 [] 0),(0, .ref 0 [] 0)],[],[(3,49,(.st xY36)),(0,158,(.st xY113))],[]⟩ (.one (.ext 0) ⟨[],[(0, .ref 0 [] 0)],[],[(0,158,(.st xY113))],[]⟩) .no))))))
noncomputable def table_filler__tabbed (a0:(Int)×xT91) (a1:(List (UInt8))×((Int)×xT9)):Option ((Int)×xT91):=
 ((Lf.nz (8:Int) (Go.IntKind.wrap .i64 (Int.tdiv a0.2.2.2.1 (8:Int))))).bind fun r1=>
 bif (decide (a0.1≤(Go.IntKind.wrap .i64 ((Go.IntKind.wrap .i64 (r1+(1:Int)))*(8:Int))))) then ((Go.Fn.table_filler__end (Lf.u4 a0 (([]:List xT20),a0.2.2.2.2.2)))).bind fun r2=>
 some r2
 else (Lf.loopU (σ:=xT20×((Int)×xT91)) (κ:=(Int)×xT91) (fun z3=>
   bif (decide (z3.2.2.2.2.1<(Go.IntKind.wrap .i64 ((Go.IntKind.wrap .i64 (r1+(1:Int)))*(8:Int))))) then ((Go.Fn.table_filler__put z3.2 z3.1)).bind fun r4=>
   some (.inl (z3.1,r4))
   else some (.inr z3.2)) ((((32:UInt8)::([]:List (UInt8))),((1:Int),a1.2.2)),(Lf.u4 a0 (([]:List xT20),a0.2.2.2.2.2))):Option ((Int)×xT91)).bind fun r5=>
 some r5
theorem table_filler__tabbed_eq (a0:(Int)×xT91) (a1:(List (UInt8))×((Int)×xT9)):Lf.fnE table_filler__tabbedCtx table_filler__tabbedCode table_filler__tabbedAnn [.obj 158 (.st xY113) (.st xY113) [], .val (.st xY36)] [] [] (a0,a1)=table_filler__tabbed a0 a1:=by kernel_rfl
noncomputable def table_filler__tabbedEnt:Nat×Lf.Entry:=(83,⟨[.obj 158 (.st xY113) (.st xY113) [], .val (.st xY36)],[],fun z=>table_filler__tabbed z.1 z.2⟩)
theorem table_filler__tabbed_ok:Lf.EntryOk Go.Proofs.Tryd.prog GG 83 table_filler__tabbedEnt.2:=
 Lf.fn_ok (c:=table_filler__tabbedCtx) (code:=table_filler__tabbedCode) (an:=table_filler__tabbedAnn) (slots:=[]) (fn:=Go.Proofs.Tryd.f83) (by kernel_rfl) ⟨Tys_ok,Lf.FnsOk.look (.con table_filler__end_ok (.con table_filler__put_ok .nil)),Lf.IpsOk.look .nil,TysEq_ok,TysIm_ok,Lf.IvsOk.look .nil,Lf.FxsOk.look .nil⟩ (by kernel_rfl) (by kernel_rfl) (by kernel_rfl) (by kernel_rfl) (by kernel_rfl) (Nat.le_of_ble_eq_true rfl) (by simp [Lf.Ty.top]) (by simp [Lf.Ty.top]) fun z r h=>(table_filler__tabbed_eq z.1 z.2).trans h
noncomputable def table_filler__leapCtx:Lf.Ctx:=⟨12,Tys,[table_kindEnt,table_filler__endEnt,table_filler__tabbedEnt],[],[],[],[],TysEq,[],some 4611686018427387904,TysIm,[]⟩
noncomputable def table_filler__leapCode:Go.Code:=(Go.Proofs.Tryd.f73.body).getD .skip
def table_filler__leapAnn:Lf.Ann:= .no
noncomputable def table_filler__leap (a0:(Int)×xT91) (a1:(List (UInt8))×((Int)×xT9)):Option ((Int)×xT91):=
 ((Go.Fn.table_kind a1)).bind fun r1=>
 bif (decide ((r1:Int)=(1:Int))) then ((Go.Fn.table_filler__tabbed a0 a1)).bind fun r2=>
 some r2
 else ((Go.Fn.table_filler__end a0)).bind fun r3=>
 some r3
theorem table_filler__leap_eq (a0:(Int)×xT91) (a1:(List (UInt8))×((Int)×xT9)):Lf.fnE table_filler__leapCtx table_filler__leapCode table_filler__leapAnn [.obj 158 (.st xY113) (.st xY113) [], .val (.st xY36)] [] [] (a0,a1)=table_filler__leap a0 a1:=by kernel_rfl
noncomputable def table_filler__leapEnt:Nat×Lf.Entry:=(73,⟨[.obj 158 (.st xY113) (.st xY113) [], .val (.st xY36)],[],fun z=>table_filler__leap z.1 z.2⟩)
theorem table_filler__leap_ok:Lf.EntryOk Go.Proofs.Tryd.prog GG 73 table_filler__leapEnt.2:=
 Lf.fn_ok (c:=table_filler__leapCtx) (code:=table_filler__leapCode) (an:=table_filler__leapAnn) (slots:=[]) (fn:=Go.Proofs.Tryd.f73) (by kernel_rfl) ⟨Tys_ok,Lf.FnsOk.look (.con table_kind_ok (.con table_filler__end_ok (.con table_filler__tabbed_ok .nil))),Lf.IpsOk.look .nil,TysEq_ok,TysIm_ok,Lf.IvsOk.look .nil,Lf.FxsOk.look .nil⟩ (by kernel_rfl) (by kernel_rfl) (by kernel_rfl) (by kernel_rfl) (by kernel_rfl) (Nat.le_of_ble_eq_true rfl) (by simp [Lf.Ty.top]) (by simp [Lf.Ty.top]) fun z r h=>(table_filler__leap_eq z.1 z.2).trans h
noncomputable def table_WideCtx:Lf.Ctx:=⟨18,Tys,[],[],[],[],[],TysEq,[],some 4611686018427387904,TysIm,[]⟩
noncomputable def table_WideCode:Go.Code:=(Go.Proofs.Tryd.f79.body).getD .skip
def table_WideAnn:Lf.Ann:=(.seq .no (.seq .no (.seq (.seq .no (.loop ⟨[6,7],[],[(8,(.int .i64)),(3,(.int .i64))],[],[]⟩ (.one (.ext 0) ⟨[],[],[(3,(.int .i64))],[],[]⟩) .no)) .no)))
noncomputable def table_Wide (a0:List xT20):Option (Int):=
 (Lf.loopU (σ:=(Int)×(Int)) (κ:=Int) (fun z1=>
   bif (decide (z1.1<(((List.length a0):Nat):Int))) then ((Lf.idx a0 z1.1)).bind fun r2=>
   some (.inl ((Go.IntKind.wrap .i64 (z1.1+(1:Int))),(Go.IntKind.wrap .i64 (z1.2+r2.2.1))))
   else some (.inr z1.2)) ((0:Int),(0:Int)):Option (Int)).bind fun r3=>
 some r3
theorem table_Wide_eq (a0:List xT20):Lf.fnE table_WideCtx table_WideCode table_WideAnn [.val (.sl (.st xY36))] [(.int .i64)] [.tmp 2] (a0)=table_Wide a0:=by kernel_rfl
noncomputable def table_WideEnt:Nat×Lf.Entry:=(79,⟨[.val (.sl (.st xY36))],[(.int .i64)],fun z=>table_Wide z⟩)
theorem table_Wide_ok:Lf.EntryOk Go.Proofs.Tryd.prog GG 79 table_WideEnt.2:=
 Lf.fn_ok (c:=table_WideCtx) (code:=table_WideCode) (an:=table_WideAnn) (slots:=[.tmp 2]) (fn:=Go.Proofs.Tryd.f79) (by kernel_rfl) ⟨Tys_ok,Lf.FnsOk.look .nil,Lf.IpsOk.look .nil,TysEq_ok,TysIm_ok,Lf.IvsOk.look .nil,Lf.FxsOk.look .nil⟩ (by kernel_rfl) (by kernel_rfl) (by kernel_rfl) (by kernel_rfl) (by kernel_rfl) (Nat.le_of_ble_eq_true rfl) (by simp [Lf.Ty.top]) (by simp [Lf.Ty.top]) fun z r h=>(table_Wide_eq z).trans h
noncomputable def table_filler__wordCtx:Lf.Ctx:=⟨79,Tys,[table_filler__endEnt,table_WideEnt,table_filler__putEnt],[],[],[],[],TysEq,[(39,table_filler__putDEnt)],some 4611686018427387904,TysIm,[]⟩
noncomputable def table_filler__wordCode:Go.Code:=(Go.Proofs.Tryd.f71.body).getD .skip
def table_filler__wordAnn:Lf.Ann:=(.seq (.seq (.draw 18) (.cnd (.seq (.seq .no (.loop ⟨[32],[(0, .ref 0 [] 0)],[(33,(.int .i64)),(31,(.mr 49 (.st xY36)))],[(0,158,(.st xY114))],[]⟩ (.one (.ext 0) ⟨[],[(0, .ref 0 [] 0)],[],[(0,158,(.st xY114))],[]⟩) .no)) .no) .no)) (.seq .no (.seq (.join (.one .nrm ⟨[1],[(0, .ref 0 [] 0)],[],[(0,158,(.st xY113))],[]⟩) .no) (.seq .no (.loop ⟨[55,56],[(0, .ref 0 [] 0)],[(57,(.int .i64))],[(0,158,(.st xY113))],[]⟩ (.one (.ext 2) ⟨[],[(0, .ref 0 [] 0)],[],[(0,158,(.st xY113))],[]⟩) (.seq .no (.seq .no (.seq (.seq .no (.seq (.join (.one .nrm ⟨[55,56,57],[(0, .ref 0 [] 0),(7, .ref 7 [] 0)],[],[(0,158,(.st xY113)),(7,49,(.st xY36))],[]⟩) (.seq (.draw 12) .no)) .no)) .no))))))))
noncomputable def table_filler__word (a0:(Int)×xT91) (a1:List xT20):Option ((Int)×xT91):=
 ((Go.Fn.table_Wide a1)).bind fun r1=>
 bif (decide ((Go.IntKind.wrap .i64 ((Go.IntKind.wrap .i64 (a0.2.2.2.1+(((List.length a0.2.2.2.2.1):Nat):Int)))+r1))≤a0.1)) then ((Lf.app (48:Nat) a0.2.2.2.2.1 a1)).bind fun r2=>
 (Lf.loopU (σ:=(Int)×((List xT20)×((Int)×((List (List xT20))×xT42)))) (κ:=(Int)×((List (List xT20))×xT42)) (fun z3=>
   bif (decide (z3.1<(((List.length r2):Nat):Int))) then ((Lf.chk (List.length z3.2.1) z3.1)).bind fun r4=>
   ((Lf.nth z3.2.1 r4)).bind fun r5=>
   ((Go.Fn.table_filler__putD z3.2.2 r5)).bind fun r6=>
   some (.inl ((Go.IntKind.wrap .i64 (z3.1+(1:Int))),(z3.2.1,r6)))
   else some (.inr z3.2.2)) ((0:Int),(r2,(Lf.u4 a0 ((),a0.2.2.2.2.2)))):Option ((Int)×((List (List xT20))×xT42))).bind fun r7=>
 some (Lf.u4 r7 (([]:List xT20),r7.2.2.2.2.2))
 else (bif (decide ((0:Int)<(((List.length a0.2.2.1):Nat):Int))) then ((Go.Fn.table_filler__end (Lf.u4 a0 (([]:List xT20),a0.2.2.2.2.2)))).bind fun r8=>
  some r8
  else some (Lf.u4 a0 (([]:List xT20),a0.2.2.2.2.2))).bind fun r9=>
 (Lf.loopU (σ:=(Int)×((Int)×xT91)) (κ:=(Int)×xT91) (fun z10=>
   bif (decide (z10.1<(((List.length a1):Nat):Int))) then ((Lf.idx a1 z10.1)).bind fun r11=>
   (bif (decide (z10.2.1<(Go.IntKind.wrap .i64 (z10.2.2.2.2.1+r11.2.1)))) then ((Go.Fn.table_filler__end z10.2)).bind fun r12=>
    some (r12,r11)
    else some (z10.2,r11)).bind fun r13=>
   ((Go.Fn.table_filler__put r13.1 r13.2)).bind fun r14=>
   some (.inl ((Go.IntKind.wrap .i64 (z10.1+(1:Int))),r14))
   else some (.inr z10.2)) ((0:Int),r9):Option ((Int)×xT91)).bind fun r15=>
 some r15
theorem table_filler__word_eq (a0:(Int)×xT91) (a1:List xT20):Lf.fnE table_filler__wordCtx table_filler__wordCode table_filler__wordAnn [.obj 158 (.st xY113) (.st xY113) [], .val (.sl (.st xY36))] [] [] (a0,a1)=table_filler__word a0 a1:=by kernel_rfl
noncomputable def table_filler__wordEnt:Nat×Lf.Entry:=(71,⟨[.obj 158 (.st xY113) (.st xY113) [], .val (.sl (.st xY36))],[],fun z=>table_filler__word z.1 z.2⟩)
theorem table_filler__word_ok:Lf.EntryOk Go.Proofs.Tryd.prog GG 71 table_filler__wordEnt.2:=
 Lf.fn_ok (c:=table_filler__wordCtx) (code:=table_filler__wordCode) (an:=table_filler__wordAnn) (slots:=[]) (fn:=Go.Proofs.Tryd.f71) (by kernel_rfl) ⟨Tys_ok,Lf.FnsOk.look (.con table_filler__end_ok (.con table_Wide_ok (.con table_filler__put_ok .nil))),Lf.IpsOk.look .nil,TysEq_ok,TysIm_ok,Lf.IvsOk.look .nil,Lf.FxsOk.look (.cons table_filler__putD_ok .nil)⟩ (by kernel_rfl) (by kernel_rfl) (by kernel_rfl) (by kernel_rfl) (by kernel_rfl) (Nat.le_of_ble_eq_true rfl) (by simp [Lf.Ty.top]) (by simp [Lf.Ty.top]) fun z r h=>(table_filler__word_eq z.1 z.2).trans h
noncomputable def table_Fill_1Ctx:Lf.Ctx:=⟨8,Tys,[table_filler__wordEnt],[],[],[],[],TysEq,[],some 4611686018427387904,TysIm,[]⟩
noncomputable def table_Fill_1Code:Go.Code:=(Go.Proofs.Tryd.f70.body).getD .skip
def table_Fill_1Ann:Lf.Ann:= .no
noncomputable def table_Fill_1 (a0:List xT20) (a1:(Int)×xT91):Option ((List xT20)×((Int)×xT91)):=
 bif (decide ((0:Int)<(((List.length a0):Nat):Int))) then ((Go.Fn.table_filler__word a1 a0)).bind fun r1=>
 some (([]:List xT20),r1)
 else some (a0,a1)
theorem table_Fill_1_eq (a0:List xT20) (a1:(Int)×xT91):Lf.fnE table_Fill_1Ctx table_Fill_1Code table_Fill_1Ann [.obj 45 (.rw 49 (.st xY36)) (.rw 49 (.st xY36)) [], .obj 158 (.st xY113) (.st xY113) [] .cel] [] [] (a0,a1)=table_Fill_1 a0 a1:=by kernel_rfl
noncomputable def table_Fill_1Ent:Nat×Lf.Entry:=(70,⟨[.obj 45 (.rw 49 (.st xY36)) (.rw 49 (.st xY36)) [], .obj 158 (.st xY113) (.st xY113) [] .cel],[],fun z=>table_Fill_1 z.1 z.2⟩)
theorem table_Fill_1_ok:Lf.EntryOk Go.Proofs.Tryd.prog GG 70 table_Fill_1Ent.2:=
 Lf.fn_ok (c:=table_Fill_1Ctx) (code:=table_Fill_1Code) (an:=table_Fill_1Ann) (slots:=[]) (fn:=Go.Proofs.Tryd.f70) (by kernel_rfl) ⟨Tys_ok,Lf.FnsOk.look (.con table_filler__word_ok .nil),Lf.IpsOk.look .nil,TysEq_ok,TysIm_ok,Lf.IvsOk.look .nil,Lf.FxsOk.look .nil⟩ (by kernel_rfl) (by kernel_rfl) (by kernel_rfl) (by kernel_rfl) (by kernel_rfl) (Nat.le_of_ble_eq_true rfl) (by simp [Lf.Ty.top]) (by simp [Lf.Ty.top]) fun z r h=>(table_Fill_1_eq z.1 z.2).trans h
noncomputable def table_FillCtx:Lf.Ctx:=⟨95,Tys,[table_checkEnt,table_Fill_1Ent,table_kindEnt,table_filler__leapEnt,table_filler__endEnt],[4,49,94],[],[(4,xY44),(7, .bn),(8,(.rw 49 (.st xY36))),(24,(.st xY113)),(49,(.rw 49 (.st xY36))),(72,(.mr 49 (.st xY36))),(94,xY44)],[],TysEq,[],some 4611686018427387904,TysIm,[]⟩
noncomputable def table_FillCode:Go.Code:=(Go.Proofs.Tryd.f58.body).getD .skip
def table_FillAnn:Lf.Ann:=(.seq .no (.seq (.seq (.join (.one .nrm ⟨[1,0],[],[(17, .bool)],[],[]⟩) .no) .no) (.seq .no (.seq .no (.seq .no (.seq .no (.seq .no (.seq (.seq .no (.loop ⟨[1,27,28],[(8, .ref 8 [] 0),(7, .cel 25 [] 0),(9, .clo 70 0 [(false,8,[],0),(true,25,[],0)])],[(29,(.int .i64))],[(8,45,(.rw 49 (.st xY36))),(25,158,(.st xY113))],[]⟩ (.one (.ext 0) ⟨[],[(7, .cel 25 [] 0),(9, .clo 70 0 [(false,8,[],0),(true,25,[],0)])],[],[(25,158,(.st xY113)),(8,45,(.rw 49 (.st xY36)))],[]⟩) (.seq .no (.seq .no (.seq (.join (.one .nrm ⟨[1,27,28,29],[(8, .ref 8 [] 0),(7, .cel 25 [] 0),(9, .clo 70 0 [(false,8,[],0),(true,25,[],0)])],[],[(8,45,(.rw 49 (.st xY36))),(25,158,(.st xY113))],[]⟩) (.seq .no (.seq .no (.seq (.join (.more .nrm ⟨[1,27,28,29],[(8, .ref 8 [] 0),(7, .cel 25 [] 0),(9, .clo 70 0 [(false,8,[],0),(true,25,[],0)]),(11, .ref 11 [] 0)],[],[(8,45,(.rw 49 (.st xY36))),(25,158,(.st xY113)),(11,49,(.st xY36))],[]⟩ (.more (.ext 2) ⟨[1,27,28,29],[(8, .ref 8 [] 0),(7, .cel 25 [] 0),(9, .clo 70 0 [(false,8,[],0),(true,25,[],0)])],[],[(8,45,(.rw 49 (.st xY36))),(25,158,(.st xY113))],[]⟩ (.one (.ext 1) ⟨[1,27,28,29],[(8, .ref 8 [] 0),(7, .cel 25 [] 0),(9, .clo 70 0 [(false,8,[],0),(true,25,[],0)])],[],[(8,45,(.rw 49 (.st xY36))),(25,158,(.st xY113))],[]⟩))) (.seq (.seq .no (.seq (.seq (.join (.one .nrm ⟨[1,27,28,29],[(8, .ref 8 [] 0),(7, .cel 25 [] 0),(9, .clo 70 0 [(false,8,[],0),(true,25,[],0)]),(11, .ref 11 [] 0)],[],[(8,45,(.rw 49 (.st xY36))),(25,158,(.st xY113)),(11,49,(.st xY36))],[]⟩) .no) .no) .no)) (.seq (.join (.one .nrm ⟨[1,27,28,29],[(8, .ref 8 [] 0),(7, .cel 25 [] 0),(9, .clo 70 0 [(false,8,[],0),(true,25,[],0)])],[],[(8,45,(.rw 49 (.st xY36))),(25,158,(.st xY113))],[]⟩) (.seq .no (.seq (.join (.one .nrm ⟨[1,27,28,29],[(8, .ref 8 [] 0),(7, .cel 25 [] 0),(9, .clo 70 0 [(false,8,[],0),(true,25,[],0)]),(11, .ref 11 [] 0)],[(68, .bool)],[(8,45,(.rw 49 (.st xY36))),(25,158,(.st xY113)),(11,49,(.st xY36))],[]⟩) .no) .no))) .no))) .no)))) .no))))) (.seq .no (.seq (.join (.one .nrm ⟨[],[(7, .cel 25 [] 0)],[],[(25,158,(.st xY113))],[]⟩) .no) .no))))))))))
noncomputable def table_Fill (a0:List xT20) (a1:Int):Option ((List (List xT20))×(Int)):=
 (bif (!(decide (a1<(1:Int)))) then some (decide ((200:Int)<a1))
  else some true).bind fun r1=>
 bif r1 then some (([]:List (List xT20)),(1:Int))
 else ((Go.Fn.table_check a0)).bind fun r2=>
 bif (decide ((r2:Int)≠(0:Int))) then some (([]:List (List xT20)),r2)
 else (Lf.loopU (σ:=(Int)×((List xT20)×((Int)×xT91))) (κ:=((Int)×xT91)×(List xT20)) (fun z3=>
   bif (decide (z3.1<(((List.length a0):Nat):Int))) then (((Lf.idx a0 z3.1)).bind fun r4=>
    ((Go.Fn.table_kind r4)).bind fun r5=>
    (bif (decide ((r5:Int)=(3:Int))) then (bif (decide (a1<r4.2.1)) then some (z3.2.1,(z3.2.2,(((63:UInt8)::([]:List (UInt8))),((1:Int),r4.2.2))))
      else some (z3.2.1,(z3.2.2,r4))).bind fun r6=>
     ((Lf.app (48:Nat) r6.1 (r6.2.2::([]:List xT20)))).bind fun r7=>
     some (.inr (.inr (r7,r6.2.1)))
     else bif (decide ((r5:Int)=(0:Int))) then (((Go.Fn.table_Fill_1 z3.2.1 z3.2.2)).bind fun r8=>
      (bif (decide ((0:Int)<(((List.length r8.2.2.2.1):Nat):Int))) then some ((decide (((((List.length r8.2.2.2.2.2.1):Nat):Int):Int)=(0:Int))),(r8.1,(r8.2,r4)))
       else some (false,(r8.1,(r8.2,r4)))).bind fun r9=>
      bif r9.1 then some (r9.2.1,(Lf.u4 r9.2.2.1 (((r9.2.2.2.1,((1:Int),r9.2.2.2.2.2))::([]:List xT20)),r9.2.2.1.2.2.2.2.2)))
      else some (r9.2.1,r9.2.2.1)).bind fun r10=>
     some (.inr (.inl r10))
     else bif (decide ((r5:Int)=(1:Int))) then some (.inl (z3.2.1,(z3.2.2,r4)))
     else bif (decide ((r5:Int)=(2:Int))) then some (.inl (z3.2.1,(z3.2.2,r4)))
     else some (.inr (.inl z3.2)):Option (((List xT20)×(((Int)×xT91)×xT20))⊕(((List xT20)×((Int)×xT91))⊕((List xT20)×((Int)×xT91))))).bind fun r11=>
    Lf.onSum r11 (fun a12=>
    ((Go.Fn.table_Fill_1 a12.1 a12.2.1)).bind fun r13=>
    ((Go.Fn.table_filler__leap r13.2 a12.2.2)).bind fun r14=>
    some (r13.1,r14)) (fun b15=>
    Lf.onSum b15 (fun a16=>
    some a16) (fun b17=>
    some b17)):Option ((List xT20)×((Int)×xT91))).bind fun r18=>
   some (.inl ((Go.IntKind.wrap .i64 (z3.1+(1:Int))),r18))
   else some (.inr (z3.2.2,z3.2.1))) ((0:Int),(([]:List xT20),(a1,(([]:List (List xT20)),(([]:List xT20),((0:Int),(([]:List xT20),()))))))):Option (((Int)×xT91)×(List xT20))).bind fun r19=>
 ((Go.Fn.table_Fill_1 r19.2 r19.1)).bind fun r20=>
 (bif (decide ((0:Int)<(((List.length r20.2.2.2.1):Nat):Int))) then ((Go.Fn.table_filler__end r20.2)).bind fun r21=>
  some r21
  else some r20.2).bind fun r22=>
 some (r22.2.1,(0:Int))
theorem table_Fill_eq (a0:List xT20) (a1:Int):Lf.fnE table_FillCtx table_FillCode table_FillAnn [.val (.sl (.st xY36)), .val (.int .i64)] [xY44,(.int .i64)] [.tmp 4, .tmp 5] (a0,a1)=table_Fill a0 a1:=by kernel_rfl
noncomputable def table_FillEnt:Nat×Lf.Entry:=(58,⟨[.val (.sl (.st xY36)), .val (.int .i64)],[xY44,(.int .i64)],fun z=>table_Fill z.1 z.2⟩)
theorem table_Fill_ok:Lf.EntryOk Go.Proofs.Tryd.prog GG 58 table_FillEnt.2:=
 Lf.fn_ok (c:=table_FillCtx) (code:=table_FillCode) (an:=table_FillAnn) (slots:=[.tmp 4, .tmp 5]) (fn:=Go.Proofs.Tryd.f58) (by kernel_rfl) ⟨Tys_ok,Lf.FnsOk.look (.con table_check_ok (.con table_Fill_1_ok (.con table_kind_ok (.con table_filler__leap_ok (.con table_filler__end_ok .nil))))),Lf.IpsOk.look .nil,TysEq_ok,TysIm_ok,Lf.IvsOk.look .nil,Lf.FxsOk.look .nil⟩ (by kernel_rfl) (by kernel_rfl) (by kernel_rfl) (by kernel_rfl) (by kernel_rfl) (Nat.le_of_ble_eq_true rfl) (by simp [Lf.Ty.top]) (by simp [Lf.Ty.top]) fun z r h=>(table_Fill_eq z.1 z.2).trans h
noncomputable def table_sharedCtx:Lf.Ctx:=⟨106,Tys,[],[],[],[(18,(.mr 3 (.int .i64)))],[],TysEq,[],some 4611686018427387904,TysIm,[]⟩
noncomputable def table_sharedCode:Go.Code:=(Go.Proofs.Tryd.f62.body).getD .skip
def table_sharedAnn:Lf.Ann:=(.seq .no (.seq .no (.seq (.seq .no (.cnd (.seq .no (.seq .no (.seq (.seq .no (.loop ⟨[3,10,28],[],[(29,(.int .i64)),(11,(.int .i64)),(9,(.mr 3 (.int .i64)))],[],[]⟩ (.one (.ext 0) ⟨[],[],[(9,(.mr 3 (.int .i64)))],[],[]⟩) (.seq .no (.seq .no (.seq (.join (.one .nrm ⟨[3,10,28,29],[],[(11,(.int .i64)),(9,(.mr 3 (.int .i64)))],[],[]⟩) (.seq .no (.seq .no (.seq .no (.seq (.join (.one .nrm ⟨[3,10,28,29,11],[],[(9,(.mr 3 (.int .i64)))],[],[]⟩) .no) .no))))) .no))))) .no))) .no)) (.seq .no (.seq (.seq .no (.loop ⟨[1,59],[],[(60,(.int .i64)),(9,(.mr 3 (.int .i64))),(13,(.int .i64))],[],[]⟩ (.one (.ext 2) ⟨[1],[],[(9,(.mr 3 (.int .i64))),(13,(.int .i64))],[],[]⟩) .no)) (.seq (.loop ⟨[1],[],[(9,(.mr 3 (.int .i64))),(13,(.int .i64))],[],[]⟩ (.one (.ext 4) ⟨[],[],[(9,(.mr 3 (.int .i64)))],[],[]⟩) (.seq .no (.seq (.seq .no (.seq (.seq .no (.loop ⟨[1,13,84],[],[(85,(.int .i64)),(15,(.int .i64)),(9,(.mr 3 (.int .i64)))],[],[]⟩ (.one (.ext 6) ⟨[1,13],[],[(9,(.mr 3 (.int .i64))),(15,(.int .i64))],[],[]⟩) (.seq .no (.seq .no (.seq (.join (.one .nrm ⟨[1,13,84,85],[],[(15,(.int .i64)),(9,(.mr 3 (.int .i64)))],[],[]⟩) (.seq .no (.seq (.draw 9) .no))) .no))))) .no)) .no))) .no))))))
noncomputable def table_shared (a0:List (Int)) (a1:Int) (a2:Int) (a3:Int):Option (List (Int)):=
 ((Lf.app (8:Nat) ([]:List (Int)) a0)).bind fun r1=>
 bif (decide ((Go.IntKind.wrap .i64 (a2+a3))≤a1)) then (Lf.loopU (σ:=(Int)×((Int)×(List (Int)))) (κ:=List (Int)) (fun z2=>
   bif (decide (z2.1<(((List.length r1):Nat):Int))) then (((Lf.chk (List.length z2.2.2) z2.1)).bind fun r3=>
    ((Lf.nth z2.2.2 r3)).bind fun r4=>
    bif (decide ((r4:Int)≠(0:Int))) then some z2.2
    else ((Lf.nz a3 (Go.IntKind.wrap .i64 (Int.tdiv (Go.IntKind.wrap .i64 (a1 - a2)) a3)))).bind fun r5=>
    ((Lf.chk (List.length z2.2.2) z2.1)).bind fun r6=>
    ((Lf.nth z2.2.2 r6)).bind fun r7=>
    (((Lf.nz a3 (Int.tmod (Go.IntKind.wrap .i64 (a1 - a2)) a3))).bind fun r8=>
     bif (decide (z2.2.1<r8)) then ((Lf.chk (List.length (List.set z2.2.2 r6 r5)) z2.1)).bind fun r9=>
     ((Lf.nth (List.set z2.2.2 r6 r5) r9)).bind fun r10=>
     ((Lf.chk (List.length (List.set z2.2.2 r6 r5)) z2.1)).bind fun r11=>
     ((Lf.nth (List.set z2.2.2 r6 r5) r11)).bind fun r12=>
     some (List.set (List.set z2.2.2 r6 r5) r11 (Go.IntKind.wrap .i64 (r10+(1:Int))))
     else some (List.set z2.2.2 r6 r5)).bind fun r13=>
    some ((Go.IntKind.wrap .i64 (z2.2.1+(1:Int))),r13)).bind fun r14=>
   some (.inl ((Go.IntKind.wrap .i64 (z2.1+(1:Int))),r14))
   else some (.inr z2.2.2)) ((0:Int),((0:Int),r1)):Option (List (Int))).bind fun r15=>
 some r15
 else (Lf.loopU (σ:=(Int)×((List (Int))×(Int))) (κ:=(List (Int))×(Int)) (fun z16=>
   bif (decide (z16.1<(((List.length r1):Nat):Int))) then ((Lf.chk (List.length z16.2.1) z16.1)).bind fun r17=>
   ((Lf.nth z16.2.1 r17)).bind fun r18=>
   ((Lf.chk (List.length z16.2.1) z16.1)).bind fun r19=>
   ((Lf.nth z16.2.1 r19)).bind fun r20=>
   ((Lf.chk (List.length (List.set z16.2.1 r19 (Max.max r18 (1:Int)))) z16.1)).bind fun r21=>
   ((Lf.nth (List.set z16.2.1 r19 (Max.max r18 (1:Int))) r21)).bind fun r22=>
   some (.inl ((Go.IntKind.wrap .i64 (z16.1+(1:Int))),((List.set z16.2.1 r19 (Max.max r18 (1:Int))),(Go.IntKind.wrap .i64 (z16.2.2+r22)))))
   else some (.inr z16.2)) ((0:Int),(r1,(0:Int))):Option ((List (Int))×(Int))).bind fun r23=>
 (Lf.loopU (σ:=(List (Int))×(Int)) (κ:=List (Int)) (fun z24=>
   bif (decide (a1<z24.2)) then (Lf.loopU (σ:=(Int)×((Int)×(List (Int)))) (κ:=(List (Int))×(Int)) (fun z25=>
     bif (decide (z25.1<(((List.length z24.1):Nat):Int))) then (((Lf.chk (List.length z25.2.2) z25.1)).bind fun r26=>
      ((Lf.nth z25.2.2 r26)).bind fun r27=>
      ((Lf.chk (List.length z25.2.2) z25.2.1)).bind fun r28=>
      ((Lf.nth z25.2.2 r28)).bind fun r29=>
      bif (decide (r29≤r27)) then some (z25.1,z25.2.2)
      else some z25.2).bind fun r30=>
     some (.inl ((Go.IntKind.wrap .i64 (z25.1+(1:Int))),r30))
     else some (.inr (z25.2.2,z25.2.1))) ((0:Int),((0:Int),z24.1)):Option ((List (Int))×(Int))).bind fun r31=>
   ((Lf.chk (List.length r31.1) r31.2)).bind fun r32=>
   ((Lf.nth r31.1 r32)).bind fun r33=>
   ((Lf.chk (List.length r31.1) r31.2)).bind fun r34=>
   ((Lf.nth r31.1 r34)).bind fun r35=>
   some (.inl ((List.set r31.1 r34 (Go.IntKind.wrap .i64 (r33 - (1:Int)))),(Go.IntKind.wrap .i64 (z24.2 - (1:Int)))))
   else some (.inr z24.1)) r23:Option (List (Int))).bind fun r36=>
 some r36
theorem table_shared_eq (a0:List (Int)) (a1:Int) (a2:Int) (a3:Int):Lf.fnE table_sharedCtx table_sharedCode table_sharedAnn [.val (.sl (.int .i64)), .val (.int .i64), .val (.int .i64), .val (.int .i64)] [(.mr 3 (.int .i64))] [.tmp 8] (a0,a1,a2,a3)=table_shared a0 a1 a2 a3:=by kernel_rfl
noncomputable def table_sharedEnt:Nat×Lf.Entry:=(62,⟨[.val (.sl (.int .i64)), .val (.int .i64), .val (.int .i64), .val (.int .i64)],[(.mr 3 (.int .i64))],fun z=>table_shared z.1 z.2.1 z.2.2.1 z.2.2.2⟩)
theorem table_shared_ok:Lf.EntryOk Go.Proofs.Tryd.prog GG 62 table_sharedEnt.2:=
 Lf.fn_ok (c:=table_sharedCtx) (code:=table_sharedCode) (an:=table_sharedAnn) (slots:=[.tmp 8]) (fn:=Go.Proofs.Tryd.f62) (by kernel_rfl) ⟨Tys_ok,Lf.FnsOk.look .nil,Lf.IpsOk.look .nil,TysEq_ok,TysIm_ok,Lf.IvsOk.look .nil,Lf.FxsOk.look .nil⟩ (by kernel_rfl) (by kernel_rfl) (by kernel_rfl) (by kernel_rfl) (by kernel_rfl) (Nat.le_of_ble_eq_true rfl) (by simp [Lf.Ty.top]) (by simp [Lf.Ty.top]) fun z r h=>(table_shared_eq z.1 z.2.1 z.2.2.1 z.2.2.2).trans h
noncomputable def table_ColumnsCtx:Lf.Ctx:=⟨90,Tys,[table_sharedEnt],[4,14,77,89],[],[(4,(.rw 148 (.st xY1))),(14,(.rw 148 (.st xY1))),(77,(.rw 148 (.st xY1))),(89,(.rw 148 (.st xY1)))],[],TysEq,[],some 4611686018427387904,TysIm,[]⟩
noncomputable def table_ColumnsCode:Go.Code:=(Go.Proofs.Tryd.f41.body).getD .skip
def table_ColumnsAnn:Lf.Ann:=(.seq .no (.seq .no (.seq (.seq (.join (.one .nrm ⟨[0,6,1],[],[(33, .bool)],[],[]⟩) .no) .no) (.seq .no (.seq (.seq .no (.loop ⟨[34,0,6,1,35],[],[(36,(.int .i64)),(8,(.int .i64)),(7,(.int .i64))],[],[]⟩ (.more (.ext 0) ⟨[0,6,1],[],[(8,(.int .i64)),(7,(.int .i64))],[],[]⟩ (.one .ret ⟨[],[],[(4,(.rw 148 (.st xY1))),(5,(.int .i64))],[],[]⟩)) (.seq .no (.seq .no (.seq (.join (.more .ret ⟨[],[],[(4,(.rw 148 (.st xY1))),(5,(.int .i64))],[],[]⟩ (.one .nrm ⟨[34,0,6,1,35,36],[],[(8,(.int .i64)),(7,(.int .i64))],[],[]⟩)) (.seq .no (.seq (.seq (.join (.one .nrm ⟨[34,0,6,1,35,36,8,10,7],[],[(45, .bool)],[],[]⟩) .no) .no) .no))) .no))))) (.seq .no (.seq (.join (.one .nrm ⟨[8,7,0,6,1],[],[(11,(.int .i64))],[],[]⟩) .no) (.seq .no (.seq .no (.seq .no (.seq .no (.seq (.seq .no (.loop ⟨[11,71,72],[],[(73,(.int .i64)),(15,(.int .i64)),(14,(.rw 148 (.st xY1)))],[],[]⟩ (.one (.ext 2) ⟨[],[],[(14,(.rw 148 (.st xY1)))],[],[]⟩) .no)) .no))))))))))))
noncomputable def table_Columns (a0:List (Int)) (a1:Int):Option ((List ((Int)×((Int)×(Unit))))×(Int)):=
 (bif (!(decide (a1<(10:Int)))) then bif (!(decide ((200:Int)<a1))) then bif (!(decide ((((List.length a0):Nat):Int)<(1:Int)))) then some (decide ((8:Int)<(((List.length a0):Nat):Int)))
  else some true
  else some true
  else some true).bind fun r1=>
 bif r1 then some (([]:List ((Int)×((Int)×(Unit)))),(1:Int))
 else (Lf.loopU (σ:=(Int)×((Int)×(Int))) (κ:=((Int)×(Int))⊕((List ((Int)×((Int)×(Unit))))×(Int))) (fun z2=>
   bif (decide (z2.1<(((List.length a0):Nat):Int))) then (((Lf.idx a0 z2.1)).bind fun r3=>
    (bif (!(decide (r3<(0:Int)))) then some (decide ((200:Int)<r3))
     else some true).bind fun r4=>
    bif r4 then some (.inl (([]:List ((Int)×((Int)×(Unit)))),(1:Int)))
    else bif (decide ((r3:Int)=(0:Int))) then some (.inr ((Go.IntKind.wrap .i64 (z2.2.1+(1:Int))),(Go.IntKind.wrap .i64 (z2.2.2+r3))))
    else some (.inr (z2.2.1,(Go.IntKind.wrap .i64 (z2.2.2+r3)))):Option (((List ((Int)×((Int)×(Unit))))×(Int))⊕((Int)×(Int)))).bind fun r5=>
   Lf.onSum r5 (fun a6=>
   some (.inr (.inr a6))) (fun b7=>
   some (.inl ((Go.IntKind.wrap .i64 (z2.1+(1:Int))),b7)))
   else some (.inr (.inl z2.2))) ((0:Int),((0:Int),(0:Int))):Option (((Int)×(Int))⊕((List ((Int)×((Int)×(Unit))))×(Int)))).bind fun r8=>
 Lf.onSum r8 (fun a9=>
 (bif (decide ((Go.IntKind.wrap .i64 (a1 - (Go.IntKind.wrap .i64 ((((List.length a0):Nat):Int) - (1:Int)))))<(((List.length a0):Nat):Int))) then some (0:Int)
  else some (1:Int)).bind fun r10=>
 ((Go.Fn.table_shared a0 (Go.IntKind.wrap .i64 (a1 - (Go.IntKind.wrap .i64 (r10*(Go.IntKind.wrap .i64 ((((List.length a0):Nat):Int) - (1:Int))))))) a9.2 a9.1)).bind fun r11=>
 (Lf.loopU (σ:=(Int)×((Int)×(List ((Int)×((Int)×(Unit)))))) (κ:=List ((Int)×((Int)×(Unit)))) (fun z12=>
   bif (decide (z12.1<(((List.length r11):Nat):Int))) then ((Lf.idx r11 z12.1)).bind fun r13=>
   ((Lf.app (16:Nat) z12.2.2 ((z12.2.1,(r13,()))::([]:List ((Int)×((Int)×(Unit))))))).bind fun r14=>
   some (.inl ((Go.IntKind.wrap .i64 (z12.1+(1:Int))),((Go.IntKind.wrap .i64 (z12.2.1+(Go.IntKind.wrap .i64 (r13+r10)))),r14)))
   else some (.inr z12.2.2)) ((0:Int),((0:Int),([]:List ((Int)×((Int)×(Unit)))))):Option (List ((Int)×((Int)×(Unit))))).bind fun r15=>
 some (r15,(0:Int))) (fun b16=>
 some b16)
theorem table_Columns_eq (a0:List (Int)) (a1:Int):Lf.fnE table_ColumnsCtx table_ColumnsCode table_ColumnsAnn [.val (.sl (.int .i64)), .val (.int .i64)] [(.rw 148 (.st xY1)),(.int .i64)] [.tmp 4, .tmp 5] (a0,a1)=table_Columns a0 a1:=by kernel_rfl
noncomputable def table_ColumnsEnt:Nat×Lf.Entry:=(41,⟨[.val (.sl (.int .i64)), .val (.int .i64)],[(.rw 148 (.st xY1)),(.int .i64)],fun z=>table_Columns z.1 z.2⟩)
theorem table_Columns_ok:Lf.EntryOk Go.Proofs.Tryd.prog GG 41 table_ColumnsEnt.2:=
 Lf.fn_ok (c:=table_ColumnsCtx) (code:=table_ColumnsCode) (an:=table_ColumnsAnn) (slots:=[.tmp 4, .tmp 5]) (fn:=Go.Proofs.Tryd.f41) (by kernel_rfl) ⟨Tys_ok,Lf.FnsOk.look (.con table_shared_ok .nil),Lf.IpsOk.look .nil,TysEq_ok,TysIm_ok,Lf.IvsOk.look .nil,Lf.FxsOk.look .nil⟩ (by kernel_rfl) (by kernel_rfl) (by kernel_rfl) (by kernel_rfl) (by kernel_rfl) (Nat.le_of_ble_eq_true rfl) (by simp [Lf.Ty.top]) (by simp [Lf.Ty.top]) fun z r h=>(table_Columns_eq z.1 z.2).trans h
noncomputable def table_columnsCtx:Lf.Ctx:=⟨40,Tys,[],[],[],[],[],TysEq,[],some 4611686018427387904,TysIm,[]⟩
noncomputable def table_columnsCode:Go.Code:=(Go.Proofs.Tryd.f77.body).getD .skip
def table_columnsAnn:Lf.Ann:=(.seq .no (.seq .no (.seq (.seq .no (.loop ⟨[6,7],[],[(8,(.int .i64)),(3,(.int .i64))],[],[]⟩ (.more (.ext 0) ⟨[],[],[],[],[]⟩ (.one .ret ⟨[],[],[(2,(.int .i64))],[],[]⟩)) (.seq .no (.seq .no (.seq (.seq .no (.seq (.seq (.join (.one .nrm ⟨[6,7,8],[(5, .ref 5 [] 0)],[(33, .bool)],[(5,148,(.st xY1))],[]⟩) .no) .no) .no)) .no))))) .no)))
noncomputable def table_columns (a0:List ((Int)×((Int)×(Unit)))):Option (Int):=
 (Lf.loopU (σ:=(Int)×(Int)) (κ:=(Unit)⊕(Int)) (fun z1=>
   bif (decide (z1.1<(((List.length a0):Nat):Int))) then ((Lf.idx a0 z1.1)).bind fun r2=>
   (bif (!(decide (r2.1<z1.2))) then bif (!(decide (r2.2.1<(1:Int)))) then bif (!(decide ((200:Int)<r2.2.1))) then some ((decide ((Go.IntKind.wrap .i64 ((200:Int) - r2.2.1))<r2.1)),r2)
    else some (true,r2)
    else some (true,r2)
    else some (true,r2)).bind fun r3=>
   bif r3.1 then some (.inr (.inr (1:Int)))
   else some (.inl ((Go.IntKind.wrap .i64 (z1.1+(1:Int))),(Go.IntKind.wrap .i64 (r3.2.1+r3.2.2.1))))
   else some (.inr (.inl ()))) ((0:Int),(0:Int)):Option ((Unit)⊕(Int))).bind fun r4=>
 Lf.onSum r4 (fun a5=>
 some (0:Int)) (fun b6=>
 some b6)
theorem table_columns_eq (a0:List ((Int)×((Int)×(Unit)))):Lf.fnE table_columnsCtx table_columnsCode table_columnsAnn [.val (.sl (.st xY1))] [(.int .i64)] [.tmp 2] (a0)=table_columns a0:=by kernel_rfl
noncomputable def table_columnsEnt:Nat×Lf.Entry:=(77,⟨[.val (.sl (.st xY1))],[(.int .i64)],fun z=>table_columns z⟩)
theorem table_columns_ok:Lf.EntryOk Go.Proofs.Tryd.prog GG 77 table_columnsEnt.2:=
 Lf.fn_ok (c:=table_columnsCtx) (code:=table_columnsCode) (an:=table_columnsAnn) (slots:=[.tmp 2]) (fn:=Go.Proofs.Tryd.f77) (by kernel_rfl) ⟨Tys_ok,Lf.FnsOk.look .nil,Lf.IpsOk.look .nil,TysEq_ok,TysIm_ok,Lf.IvsOk.look .nil,Lf.FxsOk.look .nil⟩ (by kernel_rfl) (by kernel_rfl) (by kernel_rfl) (by kernel_rfl) (by kernel_rfl) (Nat.le_of_ble_eq_true rfl) (by simp [Lf.Ty.top]) (by simp [Lf.Ty.top]) fun z r h=>(table_columns_eq z).trans h
noncomputable def table_plainCtx:Lf.Ctx:=⟨3,Tys,[],[],[],[],[],TysEq,[],some 4611686018427387904,TysIm,[]⟩
noncomputable def table_plainCode:Go.Code:=(Go.Proofs.Tryd.f78.body).getD .skip
def table_plainAnn:Lf.Ann:= .no
noncomputable def table_plain  :Option xT20:=
 some (((32:UInt8)::([]:List (UInt8))),((1:Int),(((0:Int),((7:Int),())),((0:Int),()))))
theorem table_plain_eq  :Lf.fnE table_plainCtx table_plainCode table_plainAnn [] [(.st xY36)] [.cell 0 49] ()=table_plain  :=by kernel_rfl
noncomputable def table_plainEnt:Nat×Lf.Entry:=(78,⟨[],[(.st xY36)],fun _=>table_plain ⟩)
theorem table_plain_ok:Lf.EntryOk Go.Proofs.Tryd.prog GG 78 table_plainEnt.2:=
 Lf.fn_ok (c:=table_plainCtx) (code:=table_plainCode) (an:=table_plainAnn) (slots:=[.cell 0 49]) (fn:=Go.Proofs.Tryd.f78) (by kernel_rfl) ⟨Tys_ok,Lf.FnsOk.look .nil,Lf.IpsOk.look .nil,TysEq_ok,TysIm_ok,Lf.IvsOk.look .nil,Lf.FxsOk.look .nil⟩ (by kernel_rfl) (by kernel_rfl) (by kernel_rfl) (by kernel_rfl) (by kernel_rfl) (Nat.le_of_ble_eq_true rfl) (by simp [Lf.Ty.top]) (by simp [Lf.Ty.top]) fun z r h=>(table_plain_eq ).trans h
noncomputable def table_RowCtx:Lf.Ctx:=⟨116,Tys,[table_FillEnt,table_columnsEnt,table_plainEnt,table_WideEnt],[4,7,13,15,46,59,92,96,110,115],[],[(4,xY44),(7,xY48),(13,xY44),(15,(.rw 49 (.st xY36))),(59,xY48),(92,(.rw 49 (.st xY36))),(96,(.rw 49 (.st xY36))),(110,xY44),(115,xY44)],[],TysEq,[],some 4611686018427387904,TysIm,[]⟩
noncomputable def table_RowCode:Go.Code:=(Go.Proofs.Tryd.f63.body).getD .skip
def table_RowAnn:Lf.Ann:=(.seq .no (.seq (.seq (.join (.one .nrm ⟨[0,1],[],[(33, .bool)],[],[]⟩) .no) .no) (.seq .no (.seq .no (.seq .no (.seq (.seq .no (.loop ⟨[0,39,40],[],[(41,(.int .i64)),(8,(.int .i64)),(7,xY48)],[],[]⟩ (.more (.ext 0) ⟨[0],[],[(7,xY48),(8,(.int .i64))],[],[]⟩ (.one .ret ⟨[],[],[(4,xY44),(5,(.int .i64))],[],[]⟩)) .no)) (.seq .no (.seq (.seq .no (.loop ⟨[0,68],[],[(69,(.int .i64)),(13,xY44),(7,xY48)],[],[]⟩ (.one (.ext 2) ⟨[],[],[(13,xY44)],[],[]⟩) (.seq .no (.seq .no (.seq (.seq .no (.seq .no (.seq .no (.seq (.seq .no (.loop ⟨[14,0,72,68,69,73],[],[(74,(.int .i64)),(16,(.int .i64)),(15,(.rw 49 (.st xY36))),(7,xY48),(13,xY44)],[],[]⟩ (.one (.ext 4) ⟨[0,68,69],[],[(7,xY48),(15,(.rw 49 (.st xY36))),(13,xY44)],[],[]⟩) (.seq .no (.seq .no (.seq (.join (.one .nrm ⟨[14,0,72,68,69,73,74],[],[(16,(.int .i64)),(15,(.rw 49 (.st xY36))),(7,xY48),(13,xY44)],[],[]⟩) (.seq .no (.seq .no (.seq (.loop ⟨[14,0,72,68,69,73,74,18,17],[],[(16,(.int .i64)),(15,(.rw 49 (.st xY36))),(7,xY48),(13,xY44)],[],[]⟩ (.one (.ext 6) ⟨[14,0,72,68,69,73,74,18],[],[(7,xY48),(13,xY44),(16,(.int .i64)),(15,(.rw 49 (.st xY36)))],[],[]⟩) .no) .no)))) .no))))) .no)))) .no))))) .no))))))))
noncomputable def table_Row (a0:List ((Int)×((Int)×(Unit)))) (a1:List (List xT20)):Option ((List (List xT20))×(Int)):=
 (bif (!(decide (((((List.length a0):Nat):Int):Int)≠(((List.length a1):Nat):Int)))) then bif (!(decide ((((List.length a0):Nat):Int)<(1:Int)))) then some (decide ((8:Int)<(((List.length a0):Nat):Int)))
  else some true
  else some true).bind fun r1=>
 bif r1 then some (([]:List (List xT20)),(1:Int))
 else ((Go.Fn.table_columns a0)).bind fun r2=>
 bif (decide ((r2:Int)≠(0:Int))) then some (([]:List (List xT20)),r2)
 else (Lf.loopU (σ:=(Int)×((Int)×xT30)) (κ:=(xT30×(Int))⊕((List (List xT20))×(Int))) (fun z3=>
   bif (decide (z3.1<(((List.length a1):Nat):Int))) then ((Lf.idx a1 z3.1)).bind fun r4=>
   ((Lf.idx a0 z3.1)).bind fun r5=>
   ((Go.Fn.table_Fill r4 r5.2.1)).bind fun r6=>
   bif (decide ((r6.2:Int)≠(0:Int))) then some (.inr (.inr (([]:List (List xT20)),r6.2)))
   else ((Lf.app (24:Nat) z3.2.2 (r6.1::([]:List (List (List xT20)))))).bind fun r7=>
   some (.inl ((Go.IntKind.wrap .i64 (z3.1+(1:Int))),((Max.max z3.2.1 (((List.length r6.1):Nat):Int)),r7)))
   else some (.inr (.inl (z3.2.2,z3.2.1)))) ((0:Int),((0:Int),([]:List (List (List xT20))))):Option ((xT30×(Int))⊕((List (List xT20))×(Int)))).bind fun r8=>
 Lf.onSum r8 (fun a9=>
 (Lf.loopU (σ:=(Int)×((List (List xT20))×xT30)) (κ:=List (List xT20)) (fun z10=>
   bif (decide (z10.1<a9.2)) then (Lf.loopU (σ:=(Int)×((Int)×((List xT20)×(xT30×(List (List xT20)))))) (κ:=xT30×((List xT20)×(List (List xT20)))) (fun z11=>
     bif (decide (z11.1<(((List.length z10.2.2):Nat):Int))) then (((Lf.idx z10.2.2 z11.1)).bind fun r12=>
      bif (decide ((((List.length r12):Nat):Int)≤z10.1)) then some z11.2
      else (Lf.loopU (σ:=(Int)×((List xT20)×(xT30×(List (List xT20))))) (κ:=xT30×((List (List xT20))×((Int)×(List xT20)))) (fun z13=>
        ((Lf.idx a0 z11.1)).bind fun r14=>
        bif (decide (z13.1<r14.1)) then (Go.Fn.table_plain).bind fun r15=>
        ((Lf.app (48:Nat) z13.2.1 (r15::([]:List xT20)))).bind fun r16=>
        some (.inl ((Go.IntKind.wrap .i64 (z13.1+(1:Int))),(r16,z13.2.2)))
        else some (.inr (z13.2.2.1,(z13.2.2.2,(z13.1,z13.2.1))))) z11.2:Option (xT30×((List (List xT20))×((Int)×(List xT20))))).bind fun r17=>
      ((Lf.idx r12 z10.1)).bind fun r18=>
      ((Lf.app (48:Nat) r17.2.2.2 r18)).bind fun r19=>
      ((Lf.idx r12 z10.1)).bind fun r20=>
      ((Go.Fn.table_Wide r20)).bind fun r21=>
      some ((Go.IntKind.wrap .i64 (r17.2.2.1+r21)),(r19,(r17.1,r17.2.1))):Option ((Int)×((List xT20)×(xT30×(List (List xT20)))))).bind fun r22=>
     some (.inl ((Go.IntKind.wrap .i64 (z11.1+(1:Int))),r22))
     else some (.inr (z11.2.2.2.1,(z11.2.2.1,z11.2.2.2.2)))) ((0:Int),((0:Int),(([]:List xT20),(z10.2.2,z10.2.1)))):Option (xT30×((List xT20)×(List (List xT20))))).bind fun r23=>
   ((Lf.app (24:Nat) r23.2.2 (r23.2.1::([]:List (List xT20))))).bind fun r24=>
   some (.inl ((Go.IntKind.wrap .i64 (z10.1+(1:Int))),(r24,r23.1)))
   else some (.inr z10.2.1)) ((0:Int),(([]:List (List xT20)),a9.1)):Option (List (List xT20))).bind fun r25=>
 some (r25,(0:Int))) (fun b26=>
 some b26)
theorem table_Row_eq (a0:List ((Int)×((Int)×(Unit)))) (a1:List (List xT20)):Lf.fnE table_RowCtx table_RowCode table_RowAnn [.val (.sl (.st xY1)), .val (.sl (.sl (.st xY36)))] [xY44,(.int .i64)] [.tmp 4, .tmp 5] (a0,a1)=table_Row a0 a1:=by kernel_rfl
noncomputable def table_RowEnt:Nat×Lf.Entry:=(63,⟨[.val (.sl (.st xY1)), .val (.sl (.sl (.st xY36)))],[xY44,(.int .i64)],fun z=>table_Row z.1 z.2⟩)
theorem table_Row_ok:Lf.EntryOk Go.Proofs.Tryd.prog GG 63 table_RowEnt.2:=
 Lf.fn_ok (c:=table_RowCtx) (code:=table_RowCode) (an:=table_RowAnn) (slots:=[.tmp 4, .tmp 5]) (fn:=Go.Proofs.Tryd.f63) (by kernel_rfl) ⟨Tys_ok,Lf.FnsOk.look (.con table_Fill_ok (.con table_columns_ok (.con table_plain_ok (.con table_Wide_ok .nil)))),Lf.IpsOk.look .nil,TysEq_ok,TysIm_ok,Lf.IvsOk.look .nil,Lf.FxsOk.look .nil⟩ (by kernel_rfl) (by kernel_rfl) (by kernel_rfl) (by kernel_rfl) (by kernel_rfl) (Nat.le_of_ble_eq_true rfl) (by simp [Lf.Ty.top]) (by simp [Lf.Ty.top]) fun z r h=>(table_Row_eq z.1 z.2).trans h
noncomputable def text_CellsCtx:Lf.Ctx:=⟨61,Tys,[utf8_DecodeEnt,text_WidthEnt],[],[],[(3,(.mr 117 (.st (.pr .str xY1))))],[],TysEq,[],some 4611686018427387904,TysIm,[]⟩
noncomputable def text_CellsCode:Go.Code:=(Go.Proofs.Tryd.f36.body).getD .skip
def text_CellsAnn:Lf.Ann:=(.seq .no (.seq .no (.seq (.seq .no (.loop ⟨[0],[],[(4,(.int .i64)),(3,(.mr 117 (.st (.pr .str xY1))))],[],[]⟩ (.one (.ext 0) ⟨[],[],[(3,(.mr 117 (.st (.pr .str xY1))))],[],[]⟩) (.seq .no (.seq .no (.seq .no (.seq (.join (.one .nrm ⟨[0,6,4],[],[(3,(.mr 117 (.st (.pr .str xY1))))],[],[]⟩) (.seq (.join (.one .nrm ⟨[0,6,4,7],[],[(27, .bool),(3,(.mr 117 (.st (.pr .str xY1))))],[],[]⟩) .no) (.cnd (.draw 16) .no))) .no)))))) .no)))
noncomputable def text_Cells (a0:List (UInt8)):Option (List xT6):=
 (Lf.loopU (σ:=(Int)×(List xT6)) (κ:=List xT6) (fun z1=>
   bif (decide (z1.1<(((List.length a0):Nat):Int))) then ((Lf.sub a0 z1.1 (((List.length a0):Nat):Int))).bind fun r2=>
   ((Go.Fn.utf8_Decode r2)).bind fun r3=>
   ((Go.Fn.text_Width r3.1)).bind fun r4=>
   ((bif (decide ((r4:Int)=(0:Int))) then some ((decide ((0:Int)<(((List.length z1.2):Nat):Int))),z1.2)
     else some (false,z1.2)).bind fun r5=>
    bif r5.1 then ((Lf.chk (List.length r5.2) (Go.IntKind.wrap .i64 ((((List.length r5.2):Nat):Int) - (1:Int))))).bind fun r6=>
    ((Lf.nth r5.2 r6)).bind fun r7=>
    ((Lf.sub a0 z1.1 (Go.IntKind.wrap .i64 (z1.1+r3.2)))).bind fun r8=>
    ((Lf.cat r7.1 r8)).bind fun r9=>
    ((Lf.chk (List.length r5.2) (Go.IntKind.wrap .i64 ((((List.length r5.2):Nat):Int) - (1:Int))))).bind fun r10=>
    ((Lf.nth r5.2 r10)).bind fun r11=>
    some (List.set r5.2 r10 (r9,r11.2))
    else ((Lf.sub a0 z1.1 (Go.IntKind.wrap .i64 (z1.1+r3.2)))).bind fun r12=>
    ((Lf.app (32:Nat) r5.2 ((r12,(z1.1,((Max.max r4 (1:Int)),())))::([]:List xT6)))).bind fun r13=>
    some r13).bind fun r14=>
   some (.inl ((Go.IntKind.wrap .i64 (z1.1+r3.2)),r14))
   else some (.inr z1.2)) ((0:Int),([]:List xT6)):Option (List xT6)).bind fun r15=>
 some r15
theorem text_Cells_eq (a0:List (UInt8)):Lf.fnE text_CellsCtx text_CellsCode text_CellsAnn [.val .str] [(.sl (.st (.pr .str xY1)))] [.tmp 2] (a0)=text_Cells a0:=by kernel_rfl
noncomputable def text_CellsEnt:Nat×Lf.Entry:=(36,⟨[.val .str],[(.sl (.st (.pr .str xY1)))],fun z=>text_Cells z⟩)
theorem text_Cells_ok:Lf.EntryOk Go.Proofs.Tryd.prog GG 36 text_CellsEnt.2:=
 Lf.fn_ok (c:=text_CellsCtx) (code:=text_CellsCode) (an:=text_CellsAnn) (slots:=[.tmp 2]) (fn:=Go.Proofs.Tryd.f36) (by kernel_rfl) ⟨Tys_ok,Lf.FnsOk.look (.con utf8_Decode_ok (.con text_Width_ok .nil)),Lf.IpsOk.look .nil,TysEq_ok,TysIm_ok,Lf.IvsOk.look .nil,Lf.FxsOk.look .nil⟩ (by kernel_rfl) (by kernel_rfl) (by kernel_rfl) (by kernel_rfl) (by kernel_rfl) (Nat.le_of_ble_eq_true rfl) (by simp [Lf.Ty.top]) (by simp [Lf.Ty.top]) fun z r h=>(text_Cells_eq z).trans h
noncomputable def text_controlCtx:Lf.Ctx:=⟨13,Tys,[],[],[],[],[],TysEq,[],some 4611686018427387904,TysIm,[]⟩
noncomputable def text_controlCode:Go.Code:=(Go.Proofs.Tryd.f80.body).getD .skip
def text_controlAnn:Lf.Ann:=(.seq .no (.seq (.join (.one .nrm ⟨[],[],[(2, .bool)],[],[]⟩) .no) .no))
noncomputable def text_control (a0:Int):Option (Bool):=
 (bif (!(decide (a0<(32:Int)))) then bif (decide ((127:Int)≤a0)) then some (decide (a0≤(159:Int)))
  else some false
  else some true).bind fun r1=>
 some r1
theorem text_control_eq (a0:Int):Lf.fnE text_controlCtx text_controlCode text_controlAnn [.val (.int .i32)] [.bool] [.tmp 2] (a0)=text_control a0:=by kernel_rfl
noncomputable def text_controlEnt:Nat×Lf.Entry:=(80,⟨[.val (.int .i32)],[.bool],fun z=>text_control z⟩)
theorem text_control_ok:Lf.EntryOk Go.Proofs.Tryd.prog GG 80 text_controlEnt.2:=
 Lf.fn_ok (c:=text_controlCtx) (code:=text_controlCode) (an:=text_controlAnn) (slots:=[.tmp 2]) (fn:=Go.Proofs.Tryd.f80) (by kernel_rfl) ⟨Tys_ok,Lf.FnsOk.look .nil,Lf.IpsOk.look .nil,TysEq_ok,TysIm_ok,Lf.IvsOk.look .nil,Lf.FxsOk.look .nil⟩ (by kernel_rfl) (by kernel_rfl) (by kernel_rfl) (by kernel_rfl) (by kernel_rfl) (Nat.le_of_ble_eq_true rfl) (by simp [Lf.Ty.top]) (by simp [Lf.Ty.top]) fun z r h=>(text_control_eq z).trans h
noncomputable def text_badCtx:Lf.Ctx:=⟨20,Tys,[utf8_DecodeEnt],[],[],[],[],TysEq,[],some 4611686018427387904,TysIm,[]⟩
noncomputable def text_badCode:Go.Code:=(Go.Proofs.Tryd.f81.body).getD .skip
def text_badAnn:Lf.Ann:=(.seq .no (.seq .no (.seq (.join (.one .nrm ⟨[],[],[(4, .bool)],[],[]⟩) .no) .no)))
noncomputable def text_bad (a0:List (UInt8)) (a1:Int):Option (Bool):=
 ((Lf.sub a0 a1 (((List.length a0):Nat):Int))).bind fun r1=>
 ((Go.Fn.utf8_Decode r1)).bind fun r2=>
 (bif (decide ((r2.1:Int)=(65533:Int))) then some (decide ((r2.2:Int)=(1:Int)))
  else some false).bind fun r3=>
 some r3
theorem text_bad_eq (a0:List (UInt8)) (a1:Int):Lf.fnE text_badCtx text_badCode text_badAnn [.val .str, .val (.int .i64)] [.bool] [.tmp 4] (a0,a1)=text_bad a0 a1:=by kernel_rfl
noncomputable def text_badEnt:Nat×Lf.Entry:=(81,⟨[.val .str, .val (.int .i64)],[.bool],fun z=>text_bad z.1 z.2⟩)
theorem text_bad_ok:Lf.EntryOk Go.Proofs.Tryd.prog GG 81 text_badEnt.2:=
 Lf.fn_ok (c:=text_badCtx) (code:=text_badCode) (an:=text_badAnn) (slots:=[.tmp 4]) (fn:=Go.Proofs.Tryd.f81) (by kernel_rfl) ⟨Tys_ok,Lf.FnsOk.look (.con utf8_Decode_ok .nil),Lf.IpsOk.look .nil,TysEq_ok,TysIm_ok,Lf.IvsOk.look .nil,Lf.FxsOk.look .nil⟩ (by kernel_rfl) (by kernel_rfl) (by kernel_rfl) (by kernel_rfl) (by kernel_rfl) (Nat.le_of_ble_eq_true rfl) (by simp [Lf.Ty.top]) (by simp [Lf.Ty.top]) fun z r h=>(text_bad_eq z.1 z.2).trans h
noncomputable def text_PlainCtx:Lf.Ctx:=⟨24,Tys,[text_controlEnt,text_badEnt],[],[],[],[],TysEq,[],some 4611686018427387904,TysIm,[]⟩
noncomputable def text_PlainCode:Go.Code:=(Go.Proofs.Tryd.f65.body).getD .skip
def text_PlainAnn:Lf.Ann:=(.seq .no (.seq (.seq .no (.loop ⟨[0],[],[(7, .it)],[],[]⟩ (.more .ret ⟨[],[],[(2,(.int .i64)),(3, .bool)],[],[]⟩ (.one (.ext 0) ⟨[],[],[],[],[]⟩)) (.seq .no (.seq .no (.seq .no (.seq (.join (.one .nrm ⟨[4,0],[],[(22, .bool),(7, .it)],[],[]⟩) .no) .no)))))) .no))
noncomputable def text_Plain (a0:List (UInt8)):Option ((Int)×(Bool)):=
 (Lf.loopU (σ:=(List (UInt8))×(Int)) (κ:=((Int)×(Bool))⊕(Unit)) (fun z1=>
   bif (decide (z1.2<(((List.length z1.1):Nat):Int))) then (((Go.Fn.text_control (Lf.runeAt z1.1 z1.2))).bind fun r2=>
    bif (!r2) then bif (decide (((Lf.runeAt z1.1 z1.2):Int)=(65533:Int))) then ((Go.Fn.text_bad a0 z1.2)).bind fun r3=>
    some (r3,(z1.1,(z1.2+(Lf.runeW z1.1 z1.2))))
    else some (false,(z1.1,(z1.2+(Lf.runeW z1.1 z1.2))))
    else some (true,(z1.1,(z1.2+(Lf.runeW z1.1 z1.2))))).bind fun r4=>
   bif r4.1 then some (.inr (.inl (z1.2,false)))
   else some (.inl r4.2)
   else some (.inr (.inr ()))) (a0,(0:Int)):Option (((Int)×(Bool))⊕(Unit))).bind fun r5=>
 Lf.onSum r5 (fun a6=>
 some a6) (fun b7=>
 some ((0:Int),true))
theorem text_Plain_eq (a0:List (UInt8)):Lf.fnE text_PlainCtx text_PlainCode text_PlainAnn [.val .str] [(.int .i64), .bool] [.tmp 2, .tmp 3] (a0)=text_Plain a0:=by kernel_rfl
noncomputable def text_PlainEnt:Nat×Lf.Entry:=(65,⟨[.val .str],[(.int .i64), .bool],fun z=>text_Plain z⟩)
theorem text_Plain_ok:Lf.EntryOk Go.Proofs.Tryd.prog GG 65 text_PlainEnt.2:=
 Lf.fn_ok (c:=text_PlainCtx) (code:=text_PlainCode) (an:=text_PlainAnn) (slots:=[.tmp 2, .tmp 3]) (fn:=Go.Proofs.Tryd.f65) (by kernel_rfl) ⟨Tys_ok,Lf.FnsOk.look (.con text_control_ok (.con text_bad_ok .nil)),Lf.IpsOk.look .nil,TysEq_ok,TysIm_ok,Lf.IvsOk.look .nil,Lf.FxsOk.look .nil⟩ (by kernel_rfl) (by kernel_rfl) (by kernel_rfl) (by kernel_rfl) (by kernel_rfl) (Nat.le_of_ble_eq_true rfl) (by simp [Lf.Ty.top]) (by simp [Lf.Ty.top]) fun z r h=>(text_Plain_eq z).trans h
noncomputable def ir_plainCtx:Lf.Ctx:=⟨15,Tys,[text_PlainEnt],[],[],[],[],TysEq,[],some 4611686018427387904,TysIm,[]⟩
noncomputable def ir_plainCode:Go.Code:=(Go.Proofs.Tryd.f46.body).getD .skip
def ir_plainAnn:Lf.Ann:=(.seq .no (.seq .no (.seq (.join (.one .nrm ⟨[],[],[(2, .bool)],[],[]⟩) .no) .no)))
noncomputable def ir_plain (a0:List (UInt8)):Option (Bool):=
 ((Go.Fn.text_Plain a0)).bind fun r1=>
 (bif (decide ((a0:List (UInt8))≠([]:List (UInt8)))) then some r1.2
  else some false).bind fun r2=>
 some r2
theorem ir_plain_eq (a0:List (UInt8)):Lf.fnE ir_plainCtx ir_plainCode ir_plainAnn [.val .str] [.bool] [.tmp 2] (a0)=ir_plain a0:=by kernel_rfl
noncomputable def ir_plainEnt:Nat×Lf.Entry:=(46,⟨[.val .str],[.bool],fun z=>ir_plain z⟩)
theorem ir_plain_ok:Lf.EntryOk Go.Proofs.Tryd.prog GG 46 ir_plainEnt.2:=
 Lf.fn_ok (c:=ir_plainCtx) (code:=ir_plainCode) (an:=ir_plainAnn) (slots:=[.tmp 2]) (fn:=Go.Proofs.Tryd.f46) (by kernel_rfl) ⟨Tys_ok,Lf.FnsOk.look (.con text_Plain_ok .nil),Lf.IpsOk.look .nil,TysEq_ok,TysIm_ok,Lf.IvsOk.look .nil,Lf.FxsOk.look .nil⟩ (by kernel_rfl) (by kernel_rfl) (by kernel_rfl) (by kernel_rfl) (by kernel_rfl) (Nat.le_of_ble_eq_true rfl) (by simp [Lf.Ty.top]) (by simp [Lf.Ty.top]) fun z r h=>(ir_plain_eq z).trans h
end Go.Fn
open Go Go.Lf
set_option maxRecDepth 10000
namespace Go.Fn
noncomputable def style_namedCtx:Lf.Ctx:=⟨28,Tys,[],[],[],[],[],TysEq,[],some 4611686018427387904,TysIm,[]⟩
noncomputable def style_namedCode:Go.Code:=(Go.Proofs.Tryd.f25.body).getD .skip
def style_namedAnn:Lf.Ann:=(.seq .no (.seq (.seq (.join (.one .nrm ⟨[0],[],[(11, .bool)],[],[]⟩) .no) .no) (.seq (.seq .no (.loop ⟨[0,13],[],[(14,(.int .i64))],[],[]⟩ (.more (.ext 0) ⟨[],[],[],[],[]⟩ (.one .ret ⟨[],[],[(2, .bool)],[],[]⟩)) (.seq .no (.seq .no (.seq (.seq .no (.seq (.join (.one .nrm ⟨[0,13,14],[],[(26, .bool)],[],[]⟩) .no) .no)) .no))))) .no)))
noncomputable def style_named (a0:List (UInt8)):Option (Bool):=
 (bif (!(decide ((((List.length a0):Nat):Int)<(1:Int)))) then some (decide ((12:Int)<(((List.length a0):Nat):Int)))
  else some true).bind fun r1=>
 bif r1 then some false
 else (Lf.loopU (σ:=Int) (κ:=(Unit)⊕(Bool)) (fun z2=>
   bif (decide (z2<(((List.length a0):Nat):Int))) then (((Lf.idx a0 z2)).bind fun r3=>
    bif (!(decide ((((UInt8.toNat r3):Nat):Int)<(97:Int)))) then ((Lf.idx a0 z2)).bind fun r4=>
    some (decide ((122:Int)<(((UInt8.toNat r4):Nat):Int)))
    else some true).bind fun r5=>
   bif r5 then some (.inr (.inr false))
   else some (.inl (Go.IntKind.wrap .i64 (z2+(1:Int))))
   else some (.inr (.inl ()))) (0:Int):Option ((Unit)⊕(Bool))).bind fun r6=>
 Lf.onSum r6 (fun a7=>
 some true) (fun b8=>
 some b8)
theorem style_named_eq (a0:List (UInt8)):Lf.fnE style_namedCtx style_namedCode style_namedAnn [.val .str] [.bool] [.tmp 2] (a0)=style_named a0:=by kernel_rfl
noncomputable def style_namedEnt:Nat×Lf.Entry:=(25,⟨[.val .str],[.bool],fun z=>style_named z⟩)
theorem style_named_ok:Lf.EntryOk Go.Proofs.Tryd.prog GG 25 style_namedEnt.2:=
 Lf.fn_ok (c:=style_namedCtx) (code:=style_namedCode) (an:=style_namedAnn) (slots:=[.tmp 2]) (fn:=Go.Proofs.Tryd.f25) (by kernel_rfl) ⟨Tys_ok,Lf.FnsOk.look .nil,Lf.IpsOk.look .nil,TysEq_ok,TysIm_ok,Lf.IvsOk.look .nil,Lf.FxsOk.look .nil⟩ (by kernel_rfl) (by kernel_rfl) (by kernel_rfl) (by kernel_rfl) (by kernel_rfl) (Nat.le_of_ble_eq_true rfl) (by simp [Lf.Ty.top]) (by simp [Lf.Ty.top]) fun z r h=>(style_named_eq z).trans h
noncomputable def style_FindCtx:Lf.Ctx:=⟨21,Tys,[],[],[],[],[],TysEq,[],some 4611686018427387904,TysIm,[]⟩
noncomputable def style_FindCode:Go.Code:=(Go.Proofs.Tryd.f26.body).getD .skip
def style_FindAnn:Lf.Ann:=(.seq .no (.seq (.seq .no (.loop ⟨[1,0,8],[],[(9,(.int .i64))],[],[]⟩ (.more (.ext 0) ⟨[],[],[],[],[]⟩ (.one .ret ⟨[],[],[(4,(.int .i64)),(5, .bool)],[],[]⟩)) .no)) .no))
noncomputable def style_Find (a0:List xT27) (a1:List (UInt8)):Option ((Int)×(Bool)):=
 (Lf.loopU (σ:=Int) (κ:=(Unit)⊕((Int)×(Bool))) (fun z1=>
   bif (decide (z1<(((List.length a0):Nat):Int))) then ((Lf.idx a0 z1)).bind fun r2=>
   bif (decide ((r2.1:List (UInt8))=a1)) then some (.inr (.inr (z1,true)))
   else some (.inl (Go.IntKind.wrap .i64 (z1+(1:Int))))
   else some (.inr (.inl ()))) (0:Int):Option ((Unit)⊕((Int)×(Bool)))).bind fun r3=>
 Lf.onSum r3 (fun a4=>
 some ((0:Int),false)) (fun b5=>
 some b5)
theorem style_Find_eq (a0:List xT27) (a1:List (UInt8)):Lf.fnE style_FindCtx style_FindCode style_FindAnn [.val xY38, .val .str] [(.int .i64), .bool] [.tmp 4, .tmp 5] (a0,a1)=style_Find a0 a1:=by kernel_rfl
noncomputable def style_FindEnt:Nat×Lf.Entry:=(26,⟨[.val xY38, .val .str],[(.int .i64), .bool],fun z=>style_Find z.1 z.2⟩)
theorem style_Find_ok:Lf.EntryOk Go.Proofs.Tryd.prog GG 26 style_FindEnt.2:=
 Lf.fn_ok (c:=style_FindCtx) (code:=style_FindCode) (an:=style_FindAnn) (slots:=[.tmp 4, .tmp 5]) (fn:=Go.Proofs.Tryd.f26) (by kernel_rfl) ⟨Tys_ok,Lf.FnsOk.look .nil,Lf.IpsOk.look .nil,TysEq_ok,TysIm_ok,Lf.IvsOk.look .nil,Lf.FxsOk.look .nil⟩ (by kernel_rfl) (by kernel_rfl) (by kernel_rfl) (by kernel_rfl) (by kernel_rfl) (Nat.le_of_ble_eq_true rfl) (by simp [Lf.Ty.top]) (by simp [Lf.Ty.top]) fun z r h=>(style_Find_eq z.1 z.2).trans h
noncomputable def style_changeCtx:Lf.Ctx:=⟨41,Tys,[],[],[],[],[],TysEq,[],some 4611686018427387904,TysIm,[]⟩
noncomputable def style_changeCode:Go.Code:=(Go.Proofs.Tryd.f27.body).getD .skip
def style_changeAnn:Lf.Ann:=(.seq .no (.seq (.seq (.join (.one .nrm ⟨[],[(1, .ref 1 [] 0)],[(3, .bool)],[(1,76,xY15)],[]⟩) .no) (.cnd .no (.seq (.join (.one .nrm ⟨[],[],[(32, .bool)],[],[]⟩) .no) .no))) .no))
noncomputable def style_change (a0:(Int)×((Int)×((Int)×(Unit)))):Option (Int):=
 (bif (!(decide (((Lf.bits .andNot .i64 a0.1 (127:Int)):Int)≠(0:Int)))) then bif (!(decide (((Lf.bits .andNot .i64 a0.2.1 (127:Int)):Int)≠(0:Int)))) then bif (!(decide (a0.1<(0:Int)))) then bif (!(decide (a0.2.1<(0:Int)))) then some ((decide (((Lf.bits .and .i64 a0.1 a0.2.1):Int)≠(0:Int))),a0)
  else some (true,a0)
  else some (true,a0)
  else some (true,a0)
  else some (true,a0)).bind fun r1=>
 bif r1.1 then some (62:Int)
 else (bif (!(decide (r1.2.2.2.1<(-(1:Int))))) then some (decide ((15:Int)<r1.2.2.2.1))
  else some true).bind fun r2=>
 bif r2 then some (63:Int)
 else some (0:Int)
theorem style_change_eq (a0:(Int)×((Int)×((Int)×(Unit)))):Lf.fnE style_changeCtx style_changeCode style_changeAnn [.val xY15] [(.int .i64)] [.tmp 2] (a0)=style_change a0:=by kernel_rfl
noncomputable def style_changeEnt:Nat×Lf.Entry:=(27,⟨[.val xY15],[(.int .i64)],fun z=>style_change z⟩)
theorem style_change_ok:Lf.EntryOk Go.Proofs.Tryd.prog GG 27 style_changeEnt.2:=
 Lf.fn_ok (c:=style_changeCtx) (code:=style_changeCode) (an:=style_changeAnn) (slots:=[.tmp 2]) (fn:=Go.Proofs.Tryd.f27) (by kernel_rfl) ⟨Tys_ok,Lf.FnsOk.look .nil,Lf.IpsOk.look .nil,TysEq_ok,TysIm_ok,Lf.IvsOk.look .nil,Lf.FxsOk.look .nil⟩ (by kernel_rfl) (by kernel_rfl) (by kernel_rfl) (by kernel_rfl) (by kernel_rfl) (Nat.le_of_ble_eq_true rfl) (by simp [Lf.Ty.top]) (by simp [Lf.Ty.top]) fun z r h=>(style_change_eq z).trans h
noncomputable def style_endsCtx:Lf.Ctx:=⟨33,Tys,[style_FindEnt],[],[],[],[],TysEq,[],some 4611686018427387904,TysIm,[]⟩
noncomputable def style_endsCode:Go.Code:=(Go.Proofs.Tryd.f28.body).getD .skip
def style_endsAnn:Lf.Ann:=(.seq .no (.seq .no (.seq .no (.seq (.seq .no (.loop ⟨[0],[],[(8,(.int .i64)),(1,(.int .i64)),(5, .bool)],[],[]⟩ (.one (.ext 0) ⟨[],[],[(5, .bool)],[],[]⟩) (.seq .no (.seq .no (.seq (.seq .no (.seq (.seq (.join (.one .nrm ⟨[0,5,8,6],[],[(29, .bool)],[],[]⟩) .no) .no) .no)) .no))))) .no))))
noncomputable def style_ends (a0:List xT27) (a1:Int):Option (Bool):=
 (Lf.loopU (σ:=(Int)×((Int)×(Bool))) (κ:=Bool) (fun z1=>
   bif (decide (z1.1<(8:Int))) then ((Lf.idx a0 z1.2.1)).bind fun r2=>
   ((Go.Fn.style_Find a0 r2.2.1)).bind fun r3=>
   (((Lf.idx a0 z1.2.1)).bind fun r4=>
    bif (!(decide ((r4.2.1:List (UInt8))=([]:List (UInt8))))) then some (!r3.2)
    else some true).bind fun r5=>
   bif r5 then some (.inr true)
   else some (.inl ((Go.IntKind.wrap .i64 (z1.1+(1:Int))),(r3.1,z1.2.2)))
   else some (.inr z1.2.2)) ((0:Int),(a1,false)):Option (Bool)).bind fun r6=>
 some r6
theorem style_ends_eq (a0:List xT27) (a1:Int):Lf.fnE style_endsCtx style_endsCode style_endsAnn [.val xY38, .val (.int .i64)] [.bool] [.tmp 4] (a0,a1)=style_ends a0 a1:=by kernel_rfl
noncomputable def style_endsEnt:Nat×Lf.Entry:=(28,⟨[.val xY38, .val (.int .i64)],[.bool],fun z=>style_ends z.1 z.2⟩)
theorem style_ends_ok:Lf.EntryOk Go.Proofs.Tryd.prog GG 28 style_endsEnt.2:=
 Lf.fn_ok (c:=style_endsCtx) (code:=style_endsCode) (an:=style_endsAnn) (slots:=[.tmp 4]) (fn:=Go.Proofs.Tryd.f28) (by kernel_rfl) ⟨Tys_ok,Lf.FnsOk.look (.con style_Find_ok .nil),Lf.IpsOk.look .nil,TysEq_ok,TysIm_ok,Lf.IvsOk.look .nil,Lf.FxsOk.look .nil⟩ (by kernel_rfl) (by kernel_rfl) (by kernel_rfl) (by kernel_rfl) (by kernel_rfl) (Nat.le_of_ble_eq_true rfl) (by simp [Lf.Ty.top]) (by simp [Lf.Ty.top]) fun z r h=>(style_ends_eq z.1 z.2).trans h
noncomputable def style_CheckCtx:Lf.Ctx:=⟨73,Tys,[style_namedEnt,style_FindEnt,style_changeEnt,style_endsEnt],[],[],[],[],TysEq,[],some 4611686018427387904,TysIm,[]⟩
noncomputable def style_CheckCode:Go.Code:=(Go.Proofs.Tryd.f16.body).getD .skip
def style_CheckAnn:Lf.Ann:=(.seq .no (.seq .no (.seq (.seq .no (.loop ⟨[0,16,17],[],[(18,(.int .i64))],[],[]⟩ (.more (.ext 0) ⟨[0],[],[],[],[]⟩ (.one .ret ⟨[],[],[(2,(.int .i64)),(3,(.int .i64))],[],[]⟩)) (.seq .no (.seq .no (.seq (.seq .no (.seq .no (.seq (.seq (.draw 11) .no) .no))) .no))))) (.seq (.seq .no (.loop ⟨[0,47,48],[],[(49,(.int .i64))],[],[]⟩ (.more (.ext 2) ⟨[],[],[],[],[]⟩ (.one .ret ⟨[],[],[(2,(.int .i64)),(3,(.int .i64))],[],[]⟩)) (.seq .no (.seq .no (.seq (.join (.more .nrm ⟨[0,47,48,49],[],[],[],[]⟩ (.one .ret ⟨[],[],[(2,(.int .i64)),(3,(.int .i64))],[],[]⟩)) .no) .no))))) .no))))
noncomputable def style_Check (a0:List xT27):Option ((Int)×(Int)):=
 bif (decide ((64:Int)<(((List.length a0):Nat):Int))) then some ((0:Int),(2:Int))
 else (Lf.loopU (σ:=Int) (κ:=(Unit)⊕((Int)×(Int))) (fun z1=>
   bif (decide (z1<(((List.length a0):Nat):Int))) then ((Lf.idx a0 z1)).bind fun r2=>
   ((Go.Fn.style_named r2.1)).bind fun r3=>
   bif (!r3) then some (.inr (.inr (z1,(60:Int))))
   else ((Lf.sub a0 (0:Int) z1)).bind fun r4=>
   ((Go.Fn.style_Find r4 r2.1)).bind fun r5=>
   bif r5.2 then some (.inr (.inr (z1,(61:Int))))
   else ((Go.Fn.style_change r2.2.2.1)).bind fun r6=>
   bif (decide ((r6:Int)≠(0:Int))) then some (.inr (.inr (z1,r6)))
   else some (.inl (Go.IntKind.wrap .i64 (z1+(1:Int))))
   else some (.inr (.inl ()))) (0:Int):Option ((Unit)⊕((Int)×(Int)))).bind fun r7=>
 Lf.onSum r7 (fun a8=>
 (Lf.loopU (σ:=Int) (κ:=(Unit)⊕((Int)×(Int))) (fun z9=>
   bif (decide (z9<(((List.length a0):Nat):Int))) then (((Lf.idx a0 z9)).bind fun r10=>
    bif (decide ((r10.2.1:List (UInt8))=([]:List (UInt8)))) then some (.inl ())
    else ((Go.Fn.style_Find a0 r10.2.1)).bind fun r11=>
    bif (!r11.2) then some (.inr (z9,(64:Int)))
    else ((Go.Fn.style_ends a0 z9)).bind fun r12=>
    bif (!r12) then some (.inr (z9,(65:Int)))
    else some (.inl ()):Option ((Unit)⊕((Int)×(Int)))).bind fun r13=>
   Lf.onSum r13 (fun a14=>
   some (.inl (Go.IntKind.wrap .i64 (z9+(1:Int))))) (fun b15=>
   some (.inr (.inr b15)))
   else some (.inr (.inl ()))) (0:Int):Option ((Unit)⊕((Int)×(Int)))).bind fun r16=>
 Lf.onSum r16 (fun a17=>
 some ((0:Int),(0:Int))) (fun b18=>
 some b18)) (fun b19=>
 some b19)
theorem style_Check_eq (a0:List xT27):Lf.fnE style_CheckCtx style_CheckCode style_CheckAnn [.val xY38] [(.int .i64),(.int .i64)] [.tmp 2, .tmp 3] (a0)=style_Check a0:=by kernel_rfl
noncomputable def style_CheckEnt:Nat×Lf.Entry:=(16,⟨[.val xY38],[(.int .i64),(.int .i64)],fun z=>style_Check z⟩)
theorem style_Check_ok:Lf.EntryOk Go.Proofs.Tryd.prog GG 16 style_CheckEnt.2:=
 Lf.fn_ok (c:=style_CheckCtx) (code:=style_CheckCode) (an:=style_CheckAnn) (slots:=[.tmp 2, .tmp 3]) (fn:=Go.Proofs.Tryd.f16) (by kernel_rfl) ⟨Tys_ok,Lf.FnsOk.look (.con style_named_ok (.con style_Find_ok (.con style_change_ok (.con style_ends_ok .nil)))),Lf.IpsOk.look .nil,TysEq_ok,TysIm_ok,Lf.IvsOk.look .nil,Lf.FxsOk.look .nil⟩ (by kernel_rfl) (by kernel_rfl) (by kernel_rfl) (by kernel_rfl) (by kernel_rfl) (Nat.le_of_ble_eq_true rfl) (by simp [Lf.Ty.top]) (by simp [Lf.Ty.top]) fun z r h=>(style_Check_eq z).trans h
noncomputable def style_plainCtx:Lf.Ctx:=⟨2,Tys,[],[],[],[],[],TysEq,[],some 4611686018427387904,TysIm,[]⟩
noncomputable def style_plainCode:Go.Code:=(Go.Proofs.Tryd.f52.body).getD .skip
def style_plainAnn:Lf.Ann:= .no
noncomputable def style_plain  :Option ((Int)×((Int)×((Int)×(Unit)))):=
 some ((0:Int),((0:Int),((-(1:Int)),())))
theorem style_plain_eq  :Lf.fnE style_plainCtx style_plainCode style_plainAnn [] [xY15] [.cell 0 76] ()=style_plain  :=by kernel_rfl
noncomputable def style_plainEnt:Nat×Lf.Entry:=(52,⟨[],[xY15],fun _=>style_plain ⟩)
theorem style_plain_ok:Lf.EntryOk Go.Proofs.Tryd.prog GG 52 style_plainEnt.2:=
 Lf.fn_ok (c:=style_plainCtx) (code:=style_plainCode) (an:=style_plainAnn) (slots:=[.cell 0 76]) (fn:=Go.Proofs.Tryd.f52) (by kernel_rfl) ⟨Tys_ok,Lf.FnsOk.look .nil,Lf.IpsOk.look .nil,TysEq_ok,TysIm_ok,Lf.IvsOk.look .nil,Lf.FxsOk.look .nil⟩ (by kernel_rfl) (by kernel_rfl) (by kernel_rfl) (by kernel_rfl) (by kernel_rfl) (Nat.le_of_ble_eq_true rfl) (by simp [Lf.Ty.top]) (by simp [Lf.Ty.top]) fun z r h=>(style_plain_eq ).trans h
noncomputable def style_ThenCtx:Lf.Ctx:=⟨32,Tys,[],[],[],[],[],TysEq,[],some 4611686018427387904,TysIm,[]⟩
noncomputable def style_ThenCode:Go.Code:=(Go.Proofs.Tryd.f53.body).getD .skip
def style_ThenAnn:Lf.Ann:=(.seq .no (.seq .no (.seq (.join (.one .nrm ⟨[],[(4, .ref 4 [] 0),(5, .ref 5 [] 0)],[],[(4,76,xY15),(5,76,xY15)],[]⟩) .no) .no)))
noncomputable def style_Then (a0:(Int)×((Int)×((Int)×(Unit)))) (a1:(Int)×((Int)×((Int)×(Unit)))):Option ((Int)×((Int)×((Int)×(Unit)))):=
 (bif (decide ((a1.2.2.1:Int)=(-(1:Int)))) then some (((0:Int),((0:Int),((0:Int),()))),((Lf.bits .or .i64 (Lf.bits .andNot .i64 a0.1 a1.2.1) a1.1),((Lf.bits .or .i64 (Lf.bits .andNot .i64 a0.2.1 a1.1) a1.2.1),(a0.2.2.1,a1.2.2.2))))
  else some (((0:Int),((0:Int),((0:Int),()))),((Lf.bits .or .i64 (Lf.bits .andNot .i64 a0.1 a1.2.1) a1.1),((Lf.bits .or .i64 (Lf.bits .andNot .i64 a0.2.1 a1.1) a1.2.1),a1.2.2)))).bind fun r1=>
 some r1.2
theorem style_Then_eq (a0:(Int)×((Int)×((Int)×(Unit)))) (a1:(Int)×((Int)×((Int)×(Unit)))):Lf.fnE style_ThenCtx style_ThenCode style_ThenAnn [.val xY15, .val xY15] [xY15] [.cell 4 76] (a0,a1)=style_Then a0 a1:=by kernel_rfl
noncomputable def style_ThenEnt:Nat×Lf.Entry:=(53,⟨[.val xY15, .val xY15],[xY15],fun z=>style_Then z.1 z.2⟩)
theorem style_Then_ok:Lf.EntryOk Go.Proofs.Tryd.prog GG 53 style_ThenEnt.2:=
 Lf.fn_ok (c:=style_ThenCtx) (code:=style_ThenCode) (an:=style_ThenAnn) (slots:=[.cell 4 76]) (fn:=Go.Proofs.Tryd.f53) (by kernel_rfl) ⟨Tys_ok,Lf.FnsOk.look .nil,Lf.IpsOk.look .nil,TysEq_ok,TysIm_ok,Lf.IvsOk.look .nil,Lf.FxsOk.look .nil⟩ (by kernel_rfl) (by kernel_rfl) (by kernel_rfl) (by kernel_rfl) (by kernel_rfl) (Nat.le_of_ble_eq_true rfl) (by simp [Lf.Ty.top]) (by simp [Lf.Ty.top]) fun z r h=>(style_Then_eq z.1 z.2).trans h
noncomputable def style_wholeCtx (self:(List xT27)×(Int)→Option ((Int)×((Int)×((Int)×(Unit))))):Lf.Ctx:=⟨38,Tys,[style_FindEnt,(31,⟨[.val xY38, .val (.int .i64)],[xY15],self⟩),style_plainEnt,style_ThenEnt],[],[],[],[],TysEq,[],some 4611686018427387904,TysIm,[]⟩
noncomputable def style_wholeCode:Go.Code:=(Go.Proofs.Tryd.f31.body).getD .skip
def style_wholeAnn:Lf.Ann:=(.seq .no (.seq .no (.seq (.join (.one .nrm ⟨[1,0],[(4, .ref 4 [] 0),(5, .ref 5 [] 0)],[],[(4,76,xY15),(5,76,xY15)],[]⟩) (.seq .no (.seq (.join (.one .nrm ⟨[1,0,6],[(4, .ref 4 [] 0),(5, .ref 5 [] 0)],[(27, .bool)],[(4,76,xY15),(5,76,xY15)],[]⟩) .no) .no))) (.seq (.draw 7) .no))))
noncomputable def style_wholeB (self:(List xT27)×(Int)→Option ((Int)×((Int)×((Int)×(Unit))))) (a0:List xT27) (a1:Int):Option ((Int)×((Int)×((Int)×(Unit)))):=
 (Go.Fn.style_plain).bind fun r1=>
 (((Lf.idx a0 a1)).bind fun r2=>
  ((Go.Fn.style_Find a0 r2.2.1)).bind fun r3=>
  (bif r3.2 then ((Lf.idx a0 a1)).bind fun r4=>
   some ((decide ((r4.2.1:List (UInt8))≠([]:List (UInt8)))),(((0:Int),((0:Int),((0:Int),()))),r1))
   else some (false,(((0:Int),((0:Int),((0:Int),()))),r1))).bind fun r5=>
  bif r5.1 then ((self (a0,r3.1))).bind fun r6=>
  some (r5.2.1,r6)
  else some r5.2).bind fun r7=>
 ((Lf.idx a0 a1)).bind fun r8=>
 ((Go.Fn.style_Then r7.2 r8.2.2.1)).bind fun r9=>
 some r9
theorem style_whole_eq (self:(List xT27)×(Int)→Option ((Int)×((Int)×((Int)×(Unit))))) (a0:List xT27) (a1:Int):Lf.fnE (style_wholeCtx self) style_wholeCode style_wholeAnn [.val xY38, .val (.int .i64)] [xY15] [.cell 4 76] (a0,a1)=style_wholeB self a0 a1:=by kernel_rfl
noncomputable def style_wholeN:Nat→(List xT27)×(Int)→Option ((Int)×((Int)×((Int)×(Unit))))
 | 0=>fun _=>none
 | n+1=>fun z=>style_wholeB (style_wholeN n) z.1 z.2
noncomputable def style_whole (a0:List xT27) (a1:Int):Option ((Int)×((Int)×((Int)×(Unit)))):=Lf.supC fun n=>style_wholeN n (a0,a1)
noncomputable def style_wholeEnt:Nat×Lf.Entry:=(31,⟨[.val xY38, .val (.int .i64)],[xY15],fun z=>style_whole z.1 z.2⟩)
theorem style_whole_ok:Lf.EntryOk Go.Proofs.Tryd.prog GG 31 style_wholeEnt.2:=
 Lf.rec_ok (ps:=[.val xY38, .val (.int .i64)]) (rs:=[xY15]) (N:=style_wholeN) Go.Proofs.Tryd.f31 (by kernel_rfl) (by kernel_rfl) (by kernel_rfl) (by simp [Lf.Ty.top]) (fun _=>rfl) fun n ih=>Lf.fn_ok (c:=style_wholeCtx (style_wholeN n)) (code:=style_wholeCode) (an:=style_wholeAnn) (slots:=[.cell 4 76]) (fn:=Go.Proofs.Tryd.f31) (by kernel_rfl) ⟨Tys_ok,Lf.FnsOk.look (.con style_Find_ok (.cons ih (.con style_plain_ok (.con style_Then_ok .nil)))),Lf.IpsOk.look .nil,TysEq_ok,TysIm_ok,Lf.IvsOk.look .nil,Lf.FxsOk.look .nil⟩ (by kernel_rfl) (by kernel_rfl) (by kernel_rfl) (by kernel_rfl) (by kernel_rfl) (Nat.le_of_ble_eq_true rfl) (by simp [Lf.Ty.top]) (by simp [Lf.Ty.top]) fun z r h=>(style_whole_eq (style_wholeN n) z.1 z.2).trans h
noncomputable def style_WholeCtx:Lf.Ctx:=⟨31,Tys,[style_CheckEnt,style_FindEnt,style_wholeEnt],[10],[],[],[],TysEq,[],some 4611686018427387904,TysIm,[]⟩
noncomputable def style_WholeCode:Go.Code:=(Go.Proofs.Tryd.f18.body).getD .skip
def style_WholeAnn:Lf.Ann:= .no
noncomputable def style_Whole (a0:List xT27) (a1:List (UInt8)):Option (((Int)×((Int)×((Int)×(Unit))))×(Int)):=
 ((Go.Fn.style_Check a0)).bind fun r1=>
 bif (decide ((r1.2:Int)≠(0:Int))) then some (((0:Int),((0:Int),((0:Int),()))),r1.2)
 else ((Go.Fn.style_Find a0 a1)).bind fun r2=>
 bif (!r2.2) then some (((0:Int),((0:Int),((0:Int),()))),(66:Int))
 else ((Go.Fn.style_whole a0 r2.1)).bind fun r3=>
 some (r3,(0:Int))
theorem style_Whole_eq (a0:List xT27) (a1:List (UInt8)):Lf.fnE style_WholeCtx style_WholeCode style_WholeAnn [.val xY38, .val .str] [xY15,(.int .i64)] [.cell 4 76, .tmp 5] (a0,a1)=style_Whole a0 a1:=by kernel_rfl
noncomputable def style_WholeEnt:Nat×Lf.Entry:=(18,⟨[.val xY38, .val .str],[xY15,(.int .i64)],fun z=>style_Whole z.1 z.2⟩)
theorem style_Whole_ok:Lf.EntryOk Go.Proofs.Tryd.prog GG 18 style_WholeEnt.2:=
 Lf.fn_ok (c:=style_WholeCtx) (code:=style_WholeCode) (an:=style_WholeAnn) (slots:=[.cell 4 76, .tmp 5]) (fn:=Go.Proofs.Tryd.f18) (by kernel_rfl) ⟨Tys_ok,Lf.FnsOk.look (.con style_Check_ok (.con style_Find_ok (.con style_whole_ok .nil))),Lf.IpsOk.look .nil,TysEq_ok,TysIm_ok,Lf.IvsOk.look .nil,Lf.FxsOk.look .nil⟩ (by kernel_rfl) (by kernel_rfl) (by kernel_rfl) (by kernel_rfl) (by kernel_rfl) (Nat.le_of_ble_eq_true rfl) (by simp [Lf.Ty.top]) (by simp [Lf.Ty.top]) fun z r h=>(style_Whole_eq z.1 z.2).trans h
noncomputable def style_ApplyCtx:Lf.Ctx:=⟨21,Tys,[],[],[],[],[],TysEq,[],some 4611686018427387904,TysIm,[]⟩
noncomputable def style_ApplyCode:Go.Code:=(Go.Proofs.Tryd.f54.body).getD .skip
def style_ApplyAnn:Lf.Ann:=(.seq .no (.seq .no (.seq (.join (.one .nrm ⟨[],[(4, .ref 4 [] 0),(2, .ref 2 [] 0)],[],[(4,47,(.st xY1)),(2,47,(.st xY1))],[]⟩) .no) .no)))
noncomputable def style_Apply (a0:(Int)×((Int)×(Unit))) (a1:(Int)×((Int)×((Int)×(Unit)))):Option ((Int)×((Int)×(Unit))):=
 (bif (decide ((a1.2.2.1:Int)≠(-(1:Int)))) then some (((0:Int),((0:Int),())),((Lf.bits .andNot .i64 (Lf.bits .or .i64 a0.1 a1.1) a1.2.1),(a1.2.2.1,a0.2.2)))
  else some (((0:Int),((0:Int),())),((Lf.bits .andNot .i64 (Lf.bits .or .i64 a0.1 a1.1) a1.2.1),a0.2))).bind fun r1=>
 some r1.2
theorem style_Apply_eq (a0:(Int)×((Int)×(Unit))) (a1:(Int)×((Int)×((Int)×(Unit)))):Lf.fnE style_ApplyCtx style_ApplyCode style_ApplyAnn [.val (.st xY1), .val xY15] [(.st xY1)] [.cell 4 47] (a0,a1)=style_Apply a0 a1:=by kernel_rfl
noncomputable def style_ApplyEnt:Nat×Lf.Entry:=(54,⟨[.val (.st xY1), .val xY15],[(.st xY1)],fun z=>style_Apply z.1 z.2⟩)
theorem style_Apply_ok:Lf.EntryOk Go.Proofs.Tryd.prog GG 54 style_ApplyEnt.2:=
 Lf.fn_ok (c:=style_ApplyCtx) (code:=style_ApplyCode) (an:=style_ApplyAnn) (slots:=[.cell 4 47]) (fn:=Go.Proofs.Tryd.f54) (by kernel_rfl) ⟨Tys_ok,Lf.FnsOk.look .nil,Lf.IpsOk.look .nil,TysEq_ok,TysIm_ok,Lf.IvsOk.look .nil,Lf.FxsOk.look .nil⟩ (by kernel_rfl) (by kernel_rfl) (by kernel_rfl) (by kernel_rfl) (by kernel_rfl) (Nat.le_of_ble_eq_true rfl) (by simp [Lf.Ty.top]) (by simp [Lf.Ty.top]) fun z r h=>(style_Apply_eq z.1 z.2).trans h
end Go.Fn
open Go Go.Lf
set_option maxRecDepth 10000
namespace Go.Fn
noncomputable def folioref02_ControlCtx:Lf.Ctx:=⟨17,Tys,[],[],[],[],[],TysEq,[],some 4611686018427387904,TysIm,[]⟩
noncomputable def folioref02_ControlCode:Go.Code:=(Go.Proofs.Tryd.f22.body).getD .skip
def folioref02_ControlAnn:Lf.Ann:=(.seq .no (.seq (.join (.one .nrm ⟨[],[],[(2, .bool)],[],[]⟩) .no) .no))
noncomputable def folioref02_Control (a0:Int):Option (Bool):=
 (bif (decide ((0:Int)≤a0)) then bif (!(decide (a0<(32:Int)))) then bif (decide ((127:Int)≤a0)) then some (decide (a0≤(159:Int)))
  else some false
  else some true
  else bif (decide ((127:Int)≤a0)) then some (decide (a0≤(159:Int)))
  else some false).bind fun r1=>
 some r1
theorem folioref02_Control_eq (a0:Int):Lf.fnE folioref02_ControlCtx folioref02_ControlCode folioref02_ControlAnn [.val (.int .i32)] [.bool] [.tmp 2] (a0)=folioref02_Control a0:=by kernel_rfl
noncomputable def folioref02_ControlEnt:Nat×Lf.Entry:=(22,⟨[.val (.int .i32)],[.bool],fun z=>folioref02_Control z⟩)
theorem folioref02_Control_ok:Lf.EntryOk Go.Proofs.Tryd.prog GG 22 folioref02_ControlEnt.2:=
 Lf.fn_ok (c:=folioref02_ControlCtx) (code:=folioref02_ControlCode) (an:=folioref02_ControlAnn) (slots:=[.tmp 2]) (fn:=Go.Proofs.Tryd.f22) (by kernel_rfl) ⟨Tys_ok,Lf.FnsOk.look .nil,Lf.IpsOk.look .nil,TysEq_ok,TysIm_ok,Lf.IvsOk.look .nil,Lf.FxsOk.look .nil⟩ (by kernel_rfl) (by kernel_rfl) (by kernel_rfl) (by kernel_rfl) (by kernel_rfl) (Nat.le_of_ble_eq_true rfl) (by simp [Lf.Ty.top]) (by simp [Lf.Ty.top]) fun z r h=>(folioref02_Control_eq z).trans h
noncomputable def folioref02_inCtx:Lf.Ctx:=⟨15,Tys,[],[],[],[],[],TysEq,[],some 4611686018427387904,TysIm,[]⟩
noncomputable def folioref02_inCode:Go.Code:=(Go.Proofs.Tryd.f44.body).getD .skip
def folioref02_inAnn:Lf.Ann:=(.seq .no (.seq (.join (.one .nrm ⟨[],[],[(6, .bool)],[],[]⟩) .no) .no))
noncomputable def folioref02_in (a0:Int) (a1:Int) (a2:Int):Option (Bool):=
 (bif (decide (a1≤a0)) then some (decide (a0≤a2))
  else some false).bind fun r1=>
 some r1
theorem folioref02_in_eq (a0:Int) (a1:Int) (a2:Int):Lf.fnE folioref02_inCtx folioref02_inCode folioref02_inAnn [.val (.int .i32), .val (.int .i32), .val (.int .i32)] [.bool] [.tmp 6] (a0,a1,a2)=folioref02_in a0 a1 a2:=by kernel_rfl
noncomputable def folioref02_inEnt:Nat×Lf.Entry:=(44,⟨[.val (.int .i32), .val (.int .i32), .val (.int .i32)],[.bool],fun z=>folioref02_in z.1 z.2.1 z.2.2⟩)
theorem folioref02_in_ok:Lf.EntryOk Go.Proofs.Tryd.prog GG 44 folioref02_inEnt.2:=
 Lf.fn_ok (c:=folioref02_inCtx) (code:=folioref02_inCode) (an:=folioref02_inAnn) (slots:=[.tmp 6]) (fn:=Go.Proofs.Tryd.f44) (by kernel_rfl) ⟨Tys_ok,Lf.FnsOk.look .nil,Lf.IpsOk.look .nil,TysEq_ok,TysIm_ok,Lf.IvsOk.look .nil,Lf.FxsOk.look .nil⟩ (by kernel_rfl) (by kernel_rfl) (by kernel_rfl) (by kernel_rfl) (by kernel_rfl) (Nat.le_of_ble_eq_true rfl) (by simp [Lf.Ty.top]) (by simp [Lf.Ty.top]) fun z r h=>(folioref02_in_eq z.1 z.2.1 z.2.2).trans h
noncomputable def folioref02_WidthCtx:Lf.Ctx:=⟨65,Tys,[folioref02_ControlEnt,folioref02_inEnt],[],[],[],[],TysEq,[],some 4611686018427387904,TysIm,[]⟩
noncomputable def folioref02_WidthCode:Go.Code:=(Go.Proofs.Tryd.f21.body).getD .skip
def folioref02_WidthAnn:Lf.Ann:=(.seq .no (.seq (.seq (.join (.one .nrm ⟨[0],[],[(16, .bool)],[],[]⟩) .no) .no) (.seq (.seq (.join (.one .nrm ⟨[0],[],[(38, .bool)],[],[]⟩) .no) .no) (.seq (.seq (.join (.one .nrm ⟨[],[],[(64, .bool)],[],[]⟩) .no) .no) .no))))
noncomputable def folioref02_Width (a0:Int):Option (Int):=
 (((Go.Fn.folioref02_Control a0)).bind fun r1=>
  bif (!r1) then ((Go.Fn.folioref02_in a0 (768:Int) (879:Int))).bind fun r2=>
  bif (!r2) then ((Go.Fn.folioref02_in a0 (8203:Int) (8205:Int))).bind fun r3=>
  bif (!r3) then ((Go.Fn.folioref02_in a0 (65024:Int) (65039:Int))).bind fun r4=>
  some r4
  else some true
  else some true
  else some true).bind fun r5=>
 bif r5 then some (0:Int)
 else (((Go.Fn.folioref02_in a0 (4352:Int) (4447:Int))).bind fun r6=>
  bif (!r6) then ((Go.Fn.folioref02_in a0 (11904:Int) (12350:Int))).bind fun r7=>
  bif (!r7) then ((Go.Fn.folioref02_in a0 (12353:Int) (13311:Int))).bind fun r8=>
  bif (!r8) then ((Go.Fn.folioref02_in a0 (13312:Int) (19903:Int))).bind fun r9=>
  bif (!r9) then ((Go.Fn.folioref02_in a0 (19968:Int) (42191:Int))).bind fun r10=>
  bif (!r10) then ((Go.Fn.folioref02_in a0 (44032:Int) (55203:Int))).bind fun r11=>
  some r11
  else some true
  else some true
  else some true
  else some true
  else some true).bind fun r12=>
 bif r12 then some (2:Int)
 else (((Go.Fn.folioref02_in a0 (63744:Int) (64255:Int))).bind fun r13=>
  bif (!r13) then ((Go.Fn.folioref02_in a0 (65072:Int) (65135:Int))).bind fun r14=>
  bif (!r14) then ((Go.Fn.folioref02_in a0 (65280:Int) (65376:Int))).bind fun r15=>
  bif (!r15) then ((Go.Fn.folioref02_in a0 (65504:Int) (65510:Int))).bind fun r16=>
  bif (!r16) then ((Go.Fn.folioref02_in a0 (127744:Int) (128591:Int))).bind fun r17=>
  bif (!r17) then ((Go.Fn.folioref02_in a0 (129280:Int) (129535:Int))).bind fun r18=>
  bif (!r18) then ((Go.Fn.folioref02_in a0 (131072:Int) (262141:Int))).bind fun r19=>
  some r19
  else some true
  else some true
  else some true
  else some true
  else some true
  else some true).bind fun r20=>
 bif r20 then some (2:Int)
 else some (1:Int)
theorem folioref02_Width_eq (a0:Int):Lf.fnE folioref02_WidthCtx folioref02_WidthCode folioref02_WidthAnn [.val (.int .i32)] [(.int .i64)] [.tmp 2] (a0)=folioref02_Width a0:=by kernel_rfl
noncomputable def folioref02_WidthEnt:Nat×Lf.Entry:=(21,⟨[.val (.int .i32)],[(.int .i64)],fun z=>folioref02_Width z⟩)
theorem folioref02_Width_ok:Lf.EntryOk Go.Proofs.Tryd.prog GG 21 folioref02_WidthEnt.2:=
 Lf.fn_ok (c:=folioref02_WidthCtx) (code:=folioref02_WidthCode) (an:=folioref02_WidthAnn) (slots:=[.tmp 2]) (fn:=Go.Proofs.Tryd.f21) (by kernel_rfl) ⟨Tys_ok,Lf.FnsOk.look (.con folioref02_Control_ok (.con folioref02_in_ok .nil)),Lf.IpsOk.look .nil,TysEq_ok,TysIm_ok,Lf.IvsOk.look .nil,Lf.FxsOk.look .nil⟩ (by kernel_rfl) (by kernel_rfl) (by kernel_rfl) (by kernel_rfl) (by kernel_rfl) (Nat.le_of_ble_eq_true rfl) (by simp [Lf.Ty.top]) (by simp [Lf.Ty.top]) fun z r h=>(folioref02_Width_eq z).trans h
noncomputable def foliolaw11_TwinCtx:Lf.Ctx:=⟨22,Tys,[],[2,3,16,21],[],[(2,(.rw 40 (.st xY19))),(3,(.rw 40 (.st xY19))),(16,(.rw 40 (.st xY19))),(21,(.rw 40 (.st xY19)))],[],TysEq,[],some 4611686018427387904,TysIm,[]⟩
noncomputable def foliolaw11_TwinCode:Go.Code:=(Go.Proofs.Tryd.f8.body).getD .skip
def foliolaw11_TwinAnn:Lf.Ann:=(.seq .no (.seq .no (.seq (.seq .no (.loop ⟨[6,7],[],[(8,(.int .i64)),(3,(.rw 40 (.st xY19)))],[],[]⟩ (.one (.ext 0) ⟨[],[],[(3,(.rw 40 (.st xY19)))],[],[]⟩) .no)) .no)))
noncomputable def foliolaw11_Twin (a0:List ((Int)×((Int)×xT3))):Option (List ((Int)×((Int)×xT3))):=
 (Lf.loopU (σ:=(Int)×(List ((Int)×((Int)×xT3)))) (κ:=List ((Int)×((Int)×xT3))) (fun z1=>
   bif (decide (z1.1<(((List.length a0):Nat):Int))) then ((Lf.idx a0 z1.1)).bind fun r2=>
   ((Lf.app (8:Nat) ([]:List (Int)) r2.2.2.2.1)).bind fun r3=>
   ((Lf.app (56:Nat) z1.2 ((Lf.u3 r2 (r3,r2.2.2.2.2))::([]:List ((Int)×((Int)×xT3)))))).bind fun r4=>
   some (.inl ((Go.IntKind.wrap .i64 (z1.1+(1:Int))),r4))
   else some (.inr z1.2)) ((0:Int),([]:List ((Int)×((Int)×xT3)))):Option (List ((Int)×((Int)×xT3)))).bind fun r5=>
 some r5
theorem foliolaw11_Twin_eq (a0:List ((Int)×((Int)×xT3))):Lf.fnE foliolaw11_TwinCtx foliolaw11_TwinCode foliolaw11_TwinAnn [.val (.sl (.st xY19))] [(.rw 40 (.st xY19))] [.tmp 2] (a0)=foliolaw11_Twin a0:=by kernel_rfl
noncomputable def foliolaw11_TwinEnt:Nat×Lf.Entry:=(8,⟨[.val (.sl (.st xY19))],[(.rw 40 (.st xY19))],fun z=>foliolaw11_Twin z⟩)
theorem foliolaw11_Twin_ok:Lf.EntryOk Go.Proofs.Tryd.prog GG 8 foliolaw11_TwinEnt.2:=
 Lf.fn_ok (c:=foliolaw11_TwinCtx) (code:=foliolaw11_TwinCode) (an:=foliolaw11_TwinAnn) (slots:=[.tmp 2]) (fn:=Go.Proofs.Tryd.f8) (by kernel_rfl) ⟨Tys_ok,Lf.FnsOk.look .nil,Lf.IpsOk.look .nil,TysEq_ok,TysIm_ok,Lf.IvsOk.look .nil,Lf.FxsOk.look .nil⟩ (by kernel_rfl) (by kernel_rfl) (by kernel_rfl) (by kernel_rfl) (by kernel_rfl) (Nat.le_of_ble_eq_true rfl) (by simp [Lf.Ty.top]) (by simp [Lf.Ty.top]) fun z r h=>(foliolaw11_Twin_eq z).trans h
noncomputable def foliolaw13_flatCtx:Lf.Ctx:=⟨15,Tys,[],[],[],[],[],TysEq,[],some 4611686018427387904,TysIm,[]⟩
noncomputable def foliolaw13_flatCode:Go.Code:=(Go.Proofs.Tryd.f6.body).getD .skip
def foliolaw13_flatAnn:Lf.Ann:=(.seq .no (.seq (.seq .no (.loop ⟨[5,6],[],[(7,(.int .i64))],[],[]⟩ (.more (.ext 0) ⟨[],[],[],[],[]⟩ (.one .ret ⟨[],[],[(2, .bool)],[],[]⟩)) .no)) .no))
noncomputable def foliolaw13_flat (a0:List ((Int)×((Int)×xT3))):Option (Bool):=
 (Lf.loopU (σ:=Int) (κ:=(Unit)⊕(Bool)) (fun z1=>
   bif (decide (z1<(((List.length a0):Nat):Int))) then ((Lf.idx a0 z1)).bind fun r2=>
   bif (decide ((10:Int)≤r2.1)) then some (.inr (.inr false))
   else some (.inl (Go.IntKind.wrap .i64 (z1+(1:Int))))
   else some (.inr (.inl ()))) (0:Int):Option ((Unit)⊕(Bool))).bind fun r3=>
 Lf.onSum r3 (fun a4=>
 some true) (fun b5=>
 some b5)
theorem foliolaw13_flat_eq (a0:List ((Int)×((Int)×xT3))):Lf.fnE foliolaw13_flatCtx foliolaw13_flatCode foliolaw13_flatAnn [.val (.sl (.st xY19))] [.bool] [.tmp 2] (a0)=foliolaw13_flat a0:=by kernel_rfl
noncomputable def foliolaw13_flatEnt:Nat×Lf.Entry:=(6,⟨[.val (.sl (.st xY19))],[.bool],fun z=>foliolaw13_flat z⟩)
theorem foliolaw13_flat_ok:Lf.EntryOk Go.Proofs.Tryd.prog GG 6 foliolaw13_flatEnt.2:=
 Lf.fn_ok (c:=foliolaw13_flatCtx) (code:=foliolaw13_flatCode) (an:=foliolaw13_flatAnn) (slots:=[.tmp 2]) (fn:=Go.Proofs.Tryd.f6) (by kernel_rfl) ⟨Tys_ok,Lf.FnsOk.look .nil,Lf.IpsOk.look .nil,TysEq_ok,TysIm_ok,Lf.IvsOk.look .nil,Lf.FxsOk.look .nil⟩ (by kernel_rfl) (by kernel_rfl) (by kernel_rfl) (by kernel_rfl) (by kernel_rfl) (Nat.le_of_ble_eq_true rfl) (by simp [Lf.Ty.top]) (by simp [Lf.Ty.top]) fun z r h=>(foliolaw13_flat_eq z).trans h
noncomputable def foliolaw13_bracedCtx:Lf.Ctx:=⟨27,Tys,[],[],[],[],[],TysEq,[],some 4611686018427387904,TysIm,[]⟩
noncomputable def foliolaw13_bracedCode:Go.Code:=(Go.Proofs.Tryd.f9.body).getD .skip
def foliolaw13_bracedAnn:Lf.Ann:=(.seq .no (.seq .no (.seq (.seq .no (.loop ⟨[6,7],[],[(8,(.int .i64)),(3,(.int .i64))],[],[]⟩ (.more (.ext 0) ⟨[],[],[],[],[]⟩ (.one .ret ⟨[],[],[(2, .bool)],[],[]⟩)) (.seq .no (.seq .no (.seq (.seq .no (.seq (.join (.one .nrm ⟨[6,7,8],[],[(3,(.int .i64))],[],[]⟩) (.seq .no (.seq (.join (.one .nrm ⟨[6,7,8,3,13],[],[(14, .bool)],[],[]⟩) .no) .no))) .no)) .no))))) .no)))
noncomputable def foliolaw13_braced (a0:List ((Int)×((Int)×xT3))):Option (Bool):=
 (Lf.loopU (σ:=(Int)×(Int)) (κ:=(Unit)⊕(Bool)) (fun z1=>
   bif (decide (z1.1<(((List.length a0):Nat):Int))) then ((Lf.idx a0 z1.1)).bind fun r2=>
   ((bif (decide ((r2.1:Int)=(2:Int))) then some (decide ((r2.1:Int)=(2:Int)))
     else bif (decide ((r2.1:Int)=(3:Int))) then some (decide ((r2.1:Int)=(3:Int)))
     else some (decide ((r2.1:Int)=(4:Int)))).bind fun r3=>
    bif r3 then some (Go.IntKind.wrap .i64 (z1.2+(1:Int)))
    else bif (decide ((r2.1:Int)=(5:Int))) then some (Go.IntKind.wrap .i64 (z1.2 - (1:Int)))
    else some z1.2).bind fun r4=>
   bif (decide (r4<(0:Int))) then some (.inr (.inr false))
   else some (.inl ((Go.IntKind.wrap .i64 (z1.1+(1:Int))),r4))
   else some (.inr (.inl ()))) ((0:Int),(0:Int)):Option ((Unit)⊕(Bool))).bind fun r5=>
 Lf.onSum r5 (fun a6=>
 some true) (fun b7=>
 some b7)
theorem foliolaw13_braced_eq (a0:List ((Int)×((Int)×xT3))):Lf.fnE foliolaw13_bracedCtx foliolaw13_bracedCode foliolaw13_bracedAnn [.val (.sl (.st xY19))] [.bool] [.tmp 2] (a0)=foliolaw13_braced a0:=by kernel_rfl
noncomputable def foliolaw13_bracedEnt:Nat×Lf.Entry:=(9,⟨[.val (.sl (.st xY19))],[.bool],fun z=>foliolaw13_braced z⟩)
theorem foliolaw13_braced_ok:Lf.EntryOk Go.Proofs.Tryd.prog GG 9 foliolaw13_bracedEnt.2:=
 Lf.fn_ok (c:=foliolaw13_bracedCtx) (code:=foliolaw13_bracedCode) (an:=foliolaw13_bracedAnn) (slots:=[.tmp 2]) (fn:=Go.Proofs.Tryd.f9) (by kernel_rfl) ⟨Tys_ok,Lf.FnsOk.look .nil,Lf.IpsOk.look .nil,TysEq_ok,TysIm_ok,Lf.IvsOk.look .nil,Lf.FxsOk.look .nil⟩ (by kernel_rfl) (by kernel_rfl) (by kernel_rfl) (by kernel_rfl) (by kernel_rfl) (Nat.le_of_ble_eq_true rfl) (by simp [Lf.Ty.top]) (by simp [Lf.Ty.top]) fun z r h=>(foliolaw13_braced_eq z).trans h
noncomputable def layout_RectsCtx:Lf.Ctx:=⟨66,Tys,[],[],[],[(3,(.mr 59 (.st xY23)))],[],TysEq,[],some 4611686018427387904,TysIm,[]⟩
noncomputable def layout_RectsCode:Go.Code:=(Go.Proofs.Tryd.f13.body).getD .skip
def layout_RectsAnn:Lf.Ann:=(.seq .no (.seq .no (.seq (.seq .no (.loop ⟨[10,11],[],[(3,(.mr 59 (.st xY23))),(12,(.int .i64))],[],[]⟩ (.one (.ext 0) ⟨[],[],[(3,(.mr 59 (.st xY23)))],[],[]⟩) (.seq .no (.seq .no (.seq (.seq .no (.seq .no (.seq .no (.loop ⟨[4,17,10,11,12,18],[],[(19,(.int .i64)),(6,(.int .i64)),(3,(.mr 59 (.st xY23))),(7,(.int .i64))],[],[]⟩ (.one (.ext 2) ⟨[10,11,12],[],[(3,(.mr 59 (.st xY23)))],[],[]⟩) (.seq .no (.seq .no (.seq (.seq .no (.seq (.join (.one .nrm ⟨[4,17,10,11,12,18,19,6],[(9, .ref 9 [] 0)],[(3,(.mr 59 (.st xY23)))],[(9,49,(.st xY36))],[]⟩) (.seq (.join (.one .nrm ⟨[4,17,10,11,12,18,19,6],[(9, .ref 9 [] 0)],[(31, .bool),(3,(.mr 59 (.st xY23)))],[(9,49,(.st xY36))],[]⟩) .no) (.cnd (.draw 12) .no))) (.draw 8))) .no))))))) .no))))) .no)))
noncomputable def layout_Rects (a0:List (List xT20)):Option (List xT8):=
 (Lf.loopU (σ:=(List xT8)×(Int)) (κ:=List xT8) (fun z1=>
   bif (decide (z1.2<(((List.length a0):Nat):Int))) then ((Lf.idx a0 z1.2)).bind fun r2=>
   (Lf.loopU (σ:=(Int)×((Int)×((List xT8)×(Int)))) (κ:=List xT8) (fun z3=>
     bif (decide (z3.1<(((List.length r2):Nat):Int))) then ((Lf.idx r2 z3.1)).bind fun r4=>
     ((bif (decide ((r4.2.2.2.1:Int)≠(0:Int))) then some ((decide ((r4.2.2.2.1:Int)=z3.2.2.2)),(z3.2.2.1,r4))
       else some (false,(z3.2.2.1,r4))).bind fun r5=>
      bif r5.1 then ((Lf.chk (List.length r5.2.1) (Go.IntKind.wrap .i64 ((((List.length r5.2.1):Nat):Int) - (1:Int))))).bind fun r6=>
      ((Lf.nth r5.2.1 r6)).bind fun r7=>
      ((Lf.chk (List.length r5.2.1) (Go.IntKind.wrap .i64 ((((List.length r5.2.1):Nat):Int) - (1:Int))))).bind fun r8=>
      ((Lf.nth r5.2.1 r8)).bind fun r9=>
      some ((List.set r5.2.1 r8 (Lf.u2 r9 ((Go.IntKind.wrap .i64 (r7.2.2.1+r5.2.2.2.1)),r9.2.2.2))),r5.2.2)
      else bif (decide ((r5.2.2.2.2.2.1:Int)≠(0:Int))) then ((Lf.app (32:Nat) r5.2.1 ((z1.2,(z3.2.1,(r5.2.2.2.1,r5.2.2.2.2.2)))::([]:List xT8)))).bind fun r10=>
      some (r10,r5.2.2)
      else some r5.2).bind fun r11=>
     some (.inl ((Go.IntKind.wrap .i64 (z3.1+(1:Int))),((Go.IntKind.wrap .i64 (z3.2.1+r11.2.2.1)),(r11.1,r11.2.2.2.2.1))))
     else some (.inr z3.2.2.1)) ((0:Int),((0:Int),(z1.1,(0:Int)))):Option (List xT8)).bind fun r12=>
   some (.inl (r12,(Go.IntKind.wrap .i64 (z1.2+(1:Int)))))
   else some (.inr z1.1)) (([]:List xT8),(0:Int)):Option (List xT8)).bind fun r13=>
 some r13
theorem layout_Rects_eq (a0:List (List xT20)):Lf.fnE layout_RectsCtx layout_RectsCode layout_RectsAnn [.val (.sl (.sl (.st xY36)))] [(.sl (.st xY23))] [.tmp 2] (a0)=layout_Rects a0:=by kernel_rfl
noncomputable def layout_RectsEnt:Nat×Lf.Entry:=(13,⟨[.val (.sl (.sl (.st xY36)))],[(.sl (.st xY23))],fun z=>layout_Rects z⟩)
theorem layout_Rects_ok:Lf.EntryOk Go.Proofs.Tryd.prog GG 13 layout_RectsEnt.2:=
 Lf.fn_ok (c:=layout_RectsCtx) (code:=layout_RectsCode) (an:=layout_RectsAnn) (slots:=[.tmp 2]) (fn:=Go.Proofs.Tryd.f13) (by kernel_rfl) ⟨Tys_ok,Lf.FnsOk.look .nil,Lf.IpsOk.look .nil,TysEq_ok,TysIm_ok,Lf.IvsOk.look .nil,Lf.FxsOk.look .nil⟩ (by kernel_rfl) (by kernel_rfl) (by kernel_rfl) (by kernel_rfl) (by kernel_rfl) (Nat.le_of_ble_eq_true rfl) (by simp [Lf.Ty.top]) (by simp [Lf.Ty.top]) fun z r h=>(layout_Rects_eq z).trans h
noncomputable def layout_HitCtx:Lf.Ctx:=⟨47,Tys,[],[],[],[],[],TysEq,[],some 4611686018427387904,TysIm,[]⟩
noncomputable def layout_HitCode:Go.Code:=(Go.Proofs.Tryd.f14.body).getD .skip
def layout_HitAnn:Lf.Ann:=(.seq .no (.seq (.seq .no (.loop ⟨[2,1,11,12],[],[(13,(.int .i64))],[],[]⟩ (.more (.ext 0) ⟨[],[],[],[],[]⟩ (.one .ret ⟨[],[],[(6,(.int .i64)),(7, .bool)],[],[]⟩)) (.seq .no (.seq .no (.seq (.seq .no (.seq (.join (.one .nrm ⟨[2,1,11,12,13],[(9, .ref 9 [] 0)],[(43, .bool)],[(9,59,(.st xY23))],[]⟩) .no) .no)) .no))))) .no))
noncomputable def layout_Hit (a0:(List (List xT20))×((List xT8)×xT14)) (a1:Int) (a2:Int):Option ((Int)×(Bool)):=
 (Lf.loopU (σ:=Int) (κ:=(Unit)⊕((Int)×(Bool))) (fun z1=>
   bif (decide (z1<(((List.length a0.2.1):Nat):Int))) then ((Lf.idx a0.2.1 z1)).bind fun r2=>
   (bif (decide ((r2.1:Int)=a1)) then bif (decide (r2.2.1≤a2)) then bif (decide ((0:Int)<r2.2.2.1)) then some ((decide ((Go.IntKind.wrap .u64 ((Go.IntKind.wrap .u64 a2) - (Go.IntKind.wrap .u64 r2.2.1)))<(Go.IntKind.wrap .u64 r2.2.2.1))),r2)
    else some (false,r2)
    else some (false,r2)
    else some (false,r2)).bind fun r3=>
   bif r3.1 then some (.inr (.inr (r3.2.2.2.2.1,true)))
   else some (.inl (Go.IntKind.wrap .i64 (z1+(1:Int))))
   else some (.inr (.inl ()))) (0:Int):Option ((Unit)⊕((Int)×(Bool)))).bind fun r4=>
 Lf.onSum r4 (fun a5=>
 some ((0:Int),false)) (fun b6=>
 some b6)
theorem layout_Hit_eq (a0:(List (List xT20))×((List xT8)×xT14)) (a1:Int) (a2:Int):Lf.fnE layout_HitCtx layout_HitCode layout_HitAnn [.val (.st xY94), .val (.int .i64), .val (.int .i64)] [(.int .i64), .bool] [.tmp 6, .tmp 7] (a0,a1,a2)=layout_Hit a0 a1 a2:=by kernel_rfl
noncomputable def layout_HitEnt:Nat×Lf.Entry:=(14,⟨[.val (.st xY94), .val (.int .i64), .val (.int .i64)],[(.int .i64), .bool],fun z=>layout_Hit z.1 z.2.1 z.2.2⟩)
theorem layout_Hit_ok:Lf.EntryOk Go.Proofs.Tryd.prog GG 14 layout_HitEnt.2:=
 Lf.fn_ok (c:=layout_HitCtx) (code:=layout_HitCode) (an:=layout_HitAnn) (slots:=[.tmp 6, .tmp 7]) (fn:=Go.Proofs.Tryd.f14) (by kernel_rfl) ⟨Tys_ok,Lf.FnsOk.look .nil,Lf.IpsOk.look .nil,TysEq_ok,TysIm_ok,Lf.IvsOk.look .nil,Lf.FxsOk.look .nil⟩ (by kernel_rfl) (by kernel_rfl) (by kernel_rfl) (by kernel_rfl) (by kernel_rfl) (Nat.le_of_ble_eq_true rfl) (by simp [Lf.Ty.top]) (by simp [Lf.Ty.top]) fun z r h=>(layout_Hit_eq z.1 z.2.1 z.2.2).trans h
noncomputable def layout_SameCtx:Lf.Ctx:=⟨124,Tys,[],[],[],[],[],TysEq,[],some 4611686018427387904,TysIm,[]⟩
noncomputable def layout_SameCode:Go.Code:=(Go.Proofs.Tryd.f15.body).getD .skip
def layout_SameAnn:Lf.Ann:=(.seq .no (.seq (.seq (.join (.one .nrm ⟨[],[(3, .ref 3 [] 0),(2, .ref 2 [] 0)],[(40, .bool)],[(3,30,(.st xY94)),(2,30,(.st xY94))],[]⟩) .no) .no) (.seq (.seq .no (.loop ⟨[43],[(3, .ref 3 [] 0),(2, .ref 2 [] 0)],[(44,(.int .i64))],[(3,30,(.st xY94)),(2,30,(.st xY94))],[]⟩ (.more (.ext 0) ⟨[],[(3, .ref 3 [] 0),(2, .ref 2 [] 0)],[],[(3,30,(.st xY94)),(2,30,(.st xY94))],[]⟩ (.one .ret ⟨[],[],[(4, .bool)],[],[]⟩)) (.seq .no (.seq .no (.seq (.seq .no (.seq (.seq (.draw 13) .no) (.seq .no (.loop ⟨[5,43,44,65],[(3, .ref 3 [] 0),(2, .ref 2 [] 0)],[(66,(.int .i64))],[(3,30,(.st xY94)),(2,30,(.st xY94))],[]⟩ (.more (.ext 2) ⟨[43,44],[(3, .ref 3 [] 0),(2, .ref 2 [] 0)],[],[(3,30,(.st xY94)),(2,30,(.st xY94))],[]⟩ (.one .ret ⟨[],[],[(4, .bool)],[],[]⟩)) (.seq .no (.seq .no (.seq (.seq .no (.seq (.draw 17) .no)) .no))))))) .no))))) (.seq (.seq .no (.loop ⟨[90],[(3, .ref 3 [] 0),(2, .ref 2 [] 0)],[(91,(.int .i64))],[(3,30,(.st xY94)),(2,30,(.st xY94))],[]⟩ (.more (.ext 4) ⟨[],[(3, .ref 3 [] 0),(2, .ref 2 [] 0)],[],[(3,30,(.st xY94)),(2,30,(.st xY94))],[]⟩ (.one .ret ⟨[],[],[(4, .bool)],[],[]⟩)) (.seq .no (.seq .no (.seq (.seq .no (.seq (.draw 11) .no)) .no))))) (.seq (.seq .no (.loop ⟨[108],[(3, .ref 3 [] 0),(2, .ref 2 [] 0)],[(109,(.int .i64))],[(3,30,(.st xY94)),(2,30,(.st xY94))],[]⟩ (.more (.ext 6) ⟨[],[],[],[],[]⟩ (.one .ret ⟨[],[],[(4, .bool)],[],[]⟩)) (.seq .no (.seq .no (.seq (.seq .no (.seq (.draw 11) .no)) .no))))) .no)))))
noncomputable def layout_SameRun:Lf.RunS:=⟨layout_SameCtx,layout_SameCode,layout_SameAnn,[.val (.st xY94), .val (.st xY94)],[.bool],[.tmp 4]⟩
noncomputable def layout_Same (a0:(List (List xT20))×((List xT8)×xT14)) (a1:(List (List xT20))×((List xT8)×xT14)):Option (Bool):=layout_SameRun.F (a0,a1)
noncomputable def layout_SameEnt:Nat×Lf.Entry:=(15,⟨[.val (.st xY94), .val (.st xY94)],[.bool],fun z=>layout_Same z.1 z.2⟩)
theorem layout_Same_ok:Lf.EntryOk Go.Proofs.Tryd.prog GG 15 layout_SameEnt.2:=Lf.run_ok layout_SameRun Go.Proofs.Tryd.f15 (by kernel_rfl) ⟨Tys_ok,Lf.FnsOk.look .nil,Lf.IpsOk.look .nil,TysEq_ok,TysIm_ok,Lf.IvsOk.look .nil,Lf.FxsOk.look .nil⟩ (by kernel_rfl) (by kernel_rfl) (by kernel_rfl) (by kernel_rfl) (by kernel_rfl) (by kernel_rfl) (by kernel_rfl)
end Go.Fn
open Go Go.Lf
set_option maxRecDepth 10000
namespace Go.Fn
noncomputable def folioref02_CharsCtx:Lf.Ctx:=⟨69,Tys,[],[],[],[(3,(.mr 86 xY25)),(19,(.mr 86 xY25))],[],TysEq,[],some 4611686018427387904,TysIm,[]⟩
noncomputable def folioref02_CharsCode:Go.Code:=(Go.Proofs.Tryd.f20.body).getD .skip
def folioref02_CharsAnn:Lf.Ann:=(.seq .no (.seq .no (.seq (.seq .no (.loop ⟨[0],[],[(3,(.mr 86 xY25)),(9, .it)],[],[]⟩ (.one (.ext 0) ⟨[0],[],[(3,(.mr 86 xY25))],[],[]⟩) .no)) (.seq (.seq .no (.loop ⟨[0],[],[(6,(.int .i64)),(3,(.mr 86 xY25))],[],[]⟩ (.one (.ext 2) ⟨[],[],[(3,(.mr 86 xY25))],[],[]⟩) (.seq .no (.seq (.join (.one .nrm ⟨[0,6],[],[(3,(.mr 86 xY25))],[],[]⟩) (.seq .no (.seq (.join (.one .nrm ⟨[0,6],[],[(3,(.mr 86 xY25)),(7,(.int .i64))],[],[]⟩) .no) .no))) .no)))) .no))))
noncomputable def folioref02_Chars (a0:List (UInt8)):Option (List xT11):=
 (Lf.loopU (σ:=(List xT11)×((List (UInt8))×(Int))) (κ:=List xT11) (fun z1=>
   bif (decide (z1.2.2<(((List.length z1.2.1):Nat):Int))) then ((Lf.app (32:Nat) z1.1 (((Lf.runeAt z1.2.1 z1.2.2),(z1.2.2,((0:Int),(false,()))))::([]:List xT11)))).bind fun r2=>
   some (.inl (r2,(z1.2.1,(z1.2.2+(Lf.runeW z1.2.1 z1.2.2)))))
   else some (.inr z1.1)) (([]:List xT11),(a0,(0:Int))):Option (List xT11)).bind fun r3=>
 (Lf.loopU (σ:=(Int)×(List xT11)) (κ:=List xT11) (fun z4=>
   bif (decide (z4.1<(((List.length z4.2):Nat):Int))) then ((bif (decide ((Go.IntKind.wrap .i64 (z4.1+(1:Int)))<(((List.length z4.2):Nat):Int))) then ((Lf.chk (List.length z4.2) (Go.IntKind.wrap .i64 (z4.1+(1:Int))))).bind fun r5=>
     ((Lf.nth z4.2 r5)).bind fun r6=>
     some (z4.2,r6.2.1)
     else some (z4.2,(((List.length a0):Nat):Int))).bind fun r7=>
    ((Lf.chk (List.length r7.1) z4.1)).bind fun r8=>
    ((Lf.nth r7.1 r8)).bind fun r9=>
    ((Lf.chk (List.length r7.1) z4.1)).bind fun r10=>
    ((Lf.nth r7.1 r10)).bind fun r11=>
    ((Lf.chk (List.length (List.set r7.1 r10 (Lf.u2 r11 ((Go.IntKind.wrap .i64 (r7.2 - r9.2.1)),r11.2.2.2)))) z4.1)).bind fun r12=>
    ((Lf.nth (List.set r7.1 r10 (Lf.u2 r11 ((Go.IntKind.wrap .i64 (r7.2 - r9.2.1)),r11.2.2.2))) r12)).bind fun r13=>
    bif (decide ((r13.1:Int)=(65533:Int))) then ((Lf.chk (List.length (List.set r7.1 r10 (Lf.u2 r11 ((Go.IntKind.wrap .i64 (r7.2 - r9.2.1)),r11.2.2.2)))) z4.1)).bind fun r14=>
    ((Lf.nth (List.set r7.1 r10 (Lf.u2 r11 ((Go.IntKind.wrap .i64 (r7.2 - r9.2.1)),r11.2.2.2))) r14)).bind fun r15=>
    ((Lf.chk (List.length (List.set r7.1 r10 (Lf.u2 r11 ((Go.IntKind.wrap .i64 (r7.2 - r9.2.1)),r11.2.2.2)))) z4.1)).bind fun r16=>
    ((Lf.nth (List.set r7.1 r10 (Lf.u2 r11 ((Go.IntKind.wrap .i64 (r7.2 - r9.2.1)),r11.2.2.2))) r16)).bind fun r17=>
    some (List.set (List.set r7.1 r10 (Lf.u2 r11 ((Go.IntKind.wrap .i64 (r7.2 - r9.2.1)),r11.2.2.2))) r16 (Lf.u3 r17 ((decide ((r15.2.2.1:Int)=(1:Int))),r17.2.2.2.2)))
    else ((Lf.chk (List.length (List.set r7.1 r10 (Lf.u2 r11 ((Go.IntKind.wrap .i64 (r7.2 - r9.2.1)),r11.2.2.2)))) z4.1)).bind fun r18=>
    ((Lf.nth (List.set r7.1 r10 (Lf.u2 r11 ((Go.IntKind.wrap .i64 (r7.2 - r9.2.1)),r11.2.2.2))) r18)).bind fun r19=>
    some (List.set (List.set r7.1 r10 (Lf.u2 r11 ((Go.IntKind.wrap .i64 (r7.2 - r9.2.1)),r11.2.2.2))) r18 (Lf.u3 r19 (false,r19.2.2.2.2)))).bind fun r20=>
   some (.inl ((Go.IntKind.wrap .i64 (z4.1+(1:Int))),r20))
   else some (.inr z4.2)) ((0:Int),r3):Option (List xT11)).bind fun r21=>
 some r21
theorem folioref02_Chars_eq (a0:List (UInt8)):Lf.fnE folioref02_CharsCtx folioref02_CharsCode folioref02_CharsAnn [.val .str] [(.sl xY25)] [.tmp 2] (a0)=folioref02_Chars a0:=by kernel_rfl
noncomputable def folioref02_CharsEnt:Nat×Lf.Entry:=(20,⟨[.val .str],[(.sl xY25)],fun z=>folioref02_Chars z⟩)
theorem folioref02_Chars_ok:Lf.EntryOk Go.Proofs.Tryd.prog GG 20 folioref02_CharsEnt.2:=
 Lf.fn_ok (c:=folioref02_CharsCtx) (code:=folioref02_CharsCode) (an:=folioref02_CharsAnn) (slots:=[.tmp 2]) (fn:=Go.Proofs.Tryd.f20) (by kernel_rfl) ⟨Tys_ok,Lf.FnsOk.look .nil,Lf.IpsOk.look .nil,TysEq_ok,TysIm_ok,Lf.IvsOk.look .nil,Lf.FxsOk.look .nil⟩ (by kernel_rfl) (by kernel_rfl) (by kernel_rfl) (by kernel_rfl) (by kernel_rfl) (Nat.le_of_ble_eq_true rfl) (by simp [Lf.Ty.top]) (by simp [Lf.Ty.top]) fun z r h=>(folioref02_Chars_eq z).trans h
noncomputable def folioref02_CellsCtx:Lf.Ctx:=⟨75,Tys,[folioref02_CharsEnt,folioref02_WidthEnt],[],[],[(3,(.mr 44 (.st (.pr .str xY1)))),(73,(.mr 44 (.st (.pr .str xY1))))],[],TysEq,[],some 4611686018427387904,TysIm,[]⟩
noncomputable def folioref02_CellsCode:Go.Code:=(Go.Proofs.Tryd.f10.body).getD .skip
def folioref02_CellsAnn:Lf.Ann:=(.seq .no (.seq .no (.seq .no (.seq (.seq .no (.loop ⟨[4,0],[],[(5,(.int .i64)),(3,(.mr 44 (.st (.pr .str xY1))))],[],[]⟩ (.one (.ext 0) ⟨[],[],[(3,(.mr 44 (.st (.pr .str xY1))))],[],[]⟩) (.seq .no (.seq (.join (.one .nrm ⟨[4,0,5],[],[(3,(.mr 44 (.st (.pr .str xY1))))],[],[]⟩) (.seq .no (.seq (.draw 19) (.seq (.seq (.join (.one .nrm ⟨[4,0,5,7,6],[],[(46, .bool),(3,(.mr 44 (.st (.pr .str xY1))))],[],[]⟩) .no) .no) .no)))) .no)))) .no))))
noncomputable def folioref02_Cells (a0:List (UInt8)):Option (List xT6):=
 ((Go.Fn.folioref02_Chars a0)).bind fun r1=>
 (Lf.loopU (σ:=(Int)×(List xT6)) (κ:=List xT6) (fun z2=>
   bif (decide (z2.1<(((List.length r1):Nat):Int))) then (((Lf.idx r1 z2.1)).bind fun r3=>
    ((Go.Fn.folioref02_Width r3.1)).bind fun r4=>
    ((Lf.idx r1 z2.1)).bind fun r5=>
    ((Lf.idx r1 z2.1)).bind fun r6=>
    ((Lf.idx r1 z2.1)).bind fun r7=>
    ((Lf.sub a0 r5.2.1 (Go.IntKind.wrap .i64 (r6.2.1+r7.2.2.1)))).bind fun r8=>
    (bif (decide ((r4:Int)=(0:Int))) then some ((decide ((0:Int)<(((List.length z2.2):Nat):Int))),z2.2)
     else some (false,z2.2)).bind fun r9=>
    bif r9.1 then ((Lf.chk (List.length r9.2) (Go.IntKind.wrap .i64 ((((List.length r9.2):Nat):Int) - (1:Int))))).bind fun r10=>
    ((Lf.nth r9.2 r10)).bind fun r11=>
    ((Lf.cat r11.1 r8)).bind fun r12=>
    ((Lf.chk (List.length r9.2) (Go.IntKind.wrap .i64 ((((List.length r9.2):Nat):Int) - (1:Int))))).bind fun r13=>
    ((Lf.nth r9.2 r13)).bind fun r14=>
    some (List.set r9.2 r13 (r12,r14.2))
    else ((Lf.idx r1 z2.1)).bind fun r15=>
    ((Lf.app (32:Nat) r9.2 ((r8,(r15.2.1,((Max.max r4 (1:Int)),())))::([]:List xT6)))).bind fun r16=>
    some r16).bind fun r17=>
   some (.inl ((Go.IntKind.wrap .i64 (z2.1+(1:Int))),r17))
   else some (.inr z2.2)) ((0:Int),([]:List xT6)):Option (List xT6)).bind fun r18=>
 some r18
theorem folioref02_Cells_eq (a0:List (UInt8)):Lf.fnE folioref02_CellsCtx folioref02_CellsCode folioref02_CellsAnn [.val .str] [(.sl (.st (.pr .str xY1)))] [.tmp 2] (a0)=folioref02_Cells a0:=by kernel_rfl
noncomputable def folioref02_CellsEnt:Nat×Lf.Entry:=(10,⟨[.val .str],[(.sl (.st (.pr .str xY1)))],fun z=>folioref02_Cells z⟩)
theorem folioref02_Cells_ok:Lf.EntryOk Go.Proofs.Tryd.prog GG 10 folioref02_CellsEnt.2:=
 Lf.fn_ok (c:=folioref02_CellsCtx) (code:=folioref02_CellsCode) (an:=folioref02_CellsAnn) (slots:=[.tmp 2]) (fn:=Go.Proofs.Tryd.f10) (by kernel_rfl) ⟨Tys_ok,Lf.FnsOk.look (.con folioref02_Chars_ok (.con folioref02_Width_ok .nil)),Lf.IpsOk.look .nil,TysEq_ok,TysIm_ok,Lf.IvsOk.look .nil,Lf.FxsOk.look .nil⟩ (by kernel_rfl) (by kernel_rfl) (by kernel_rfl) (by kernel_rfl) (by kernel_rfl) (Nat.le_of_ble_eq_true rfl) (by simp [Lf.Ty.top]) (by simp [Lf.Ty.top]) fun z r h=>(folioref02_Cells_eq z).trans h
end Go.Fn
open Go Go.Lf
set_option maxRecDepth 10000
namespace Go.Fn
noncomputable def ir_walker__formCtx:Lf.Ctx:=⟨131,Tys,[ir_plainEnt],[],[],[],[],TysEq,[],some 4611686018427387904,TysIm,[]⟩
noncomputable def ir_walker__formCode:Go.Code:=(Go.Proofs.Tryd.f29.body).getD .skip
def ir_walker__formAnn:Lf.Ann:=(.seq .no (.seq (.draw 13) (.seq (.join (.more .nrm ⟨[],[(0, .ref 0 [] 0)],[(7, .bool),(6, .bool),(5, .bool)],[(0,109,xY199)],[]⟩ (.one .ret ⟨[],[(0, .ref 0 [] 0)],[(4, .bool)],[(0,109,xY199)],[]⟩)) (.seq .no (.seq .no (.cnd .no (.seq .no (.cnd (.draw 13) (.seq (.join (.one .nrm ⟨[7,6,5,21],[(0, .ref 0 [] 0),(3, .ref 3 [] 0)],[(48, .bool)],[(0,109,xY199),(3,40,(.st xY19))],[]⟩) .no) (.cnd (.draw 13) (.seq .no (.cnd (.draw 13) (.seq .no (.cnd .no (.seq .no (.cnd (.seq (.join (.one .nrm ⟨[6,5],[(0, .ref 0 [] 0),(3, .ref 3 [] 0)],[(7, .bool)],[(0,109,xY199),(3,40,(.st xY19))],[]⟩) .no) (.seq .no (.loop ⟨[100,6,5,101],[(0, .ref 0 [] 0)],[(102,(.int .i64)),(7, .bool)],[(0,109,xY199)],[]⟩ (.one (.ext 1) ⟨[6,5],[(0, .ref 0 [] 0)],[(7, .bool)],[(0,109,xY199)],[]⟩) (.seq .no (.seq .no (.seq (.join (.one .nrm ⟨[100,6,5,101,102],[(0, .ref 0 [] 0)],[(7, .bool)],[(0,109,xY199)],[]⟩) .no) .no)))))) (.seq (.join (.one .nrm ⟨[7,6,5],[(0, .ref 0 [] 0)],[(116, .bool)],[(0,109,xY199)],[]⟩) .no) .no))))))))))))))) (.seq (.join (.one .nrm ⟨[],[(0, .ref 0 [] 0)],[(4, .bool)],[(0,109,xY199)],[]⟩) .no) .no))))
noncomputable def ir_walker__form (a0:(((Int)×xT8)×xT185)×xT8) (a1:(Int)×((Int)×xT3)):Option ((Bool)×xT187):=
 (bif (decide ((a1.1:Int)=(1:Int))) then ((Go.Fn.ir_plain a1.2.2.1)).bind fun r1=>
  bif r1 then some (.inl ((decide (((((List.length a1.2.2.2.1):Nat):Int):Int)=(0:Int))),((decide ((a0.2.2.2.2.1:Int)≠(1:Int))),((decide ((a1.2.1:Int)=(0:Int))),a0))))
  else some (.inl ((decide (((((List.length a1.2.2.2.1):Nat):Int):Int)=(0:Int))),(false,((decide ((a1.2.1:Int)=(0:Int))),a0))))
  else bif (decide ((a1.1:Int)=(2:Int))) then bif (decide ((0:Int)≤a1.2.1)) then some (.inl ((decide (((((List.length a1.2.2.2.1):Nat):Int):Int)=(0:Int))),((decide ((a1.2.2.1:List (UInt8))=([]:List (UInt8)))),((decide (a1.2.1<a0.2.2.1)),a0))))
  else some (.inl ((decide (((((List.length a1.2.2.2.1):Nat):Int):Int)=(0:Int))),((decide ((a1.2.2.1:List (UInt8))=([]:List (UInt8)))),(false,a0))))
  else (bif (decide ((a1.1:Int)=(3:Int))) then some ((decide ((a1.1:Int)=(3:Int))),(a0,a1))
   else some ((decide ((a1.1:Int)=(4:Int))),(a0,a1))).bind fun r2=>
  bif r2.1 then bif (decide ((0:Int)≤r2.2.2.2.1)) then some (.inl ((decide (((((List.length a1.2.2.2.1):Nat):Int):Int)=(0:Int))),((decide ((a1.2.2.1:List (UInt8))=([]:List (UInt8)))),((decide (r2.2.2.2.1<r2.2.1.2.2.2.1)),r2.2.1))))
  else some (.inl ((decide (((((List.length a1.2.2.2.1):Nat):Int):Int)=(0:Int))),((decide ((a1.2.2.1:List (UInt8))=([]:List (UInt8)))),(false,r2.2.1))))
  else bif (decide ((a1.1:Int)=(8:Int))) then bif (decide ((-(1:Int))≤r2.2.2.2.1)) then some (.inl ((decide (((((List.length a1.2.2.2.1):Nat):Int):Int)=(0:Int))),((decide ((a1.2.2.1:List (UInt8))=([]:List (UInt8)))),((decide (r2.2.2.2.1<r2.2.1.2.2.1)),r2.2.1))))
  else some (.inl ((decide (((((List.length a1.2.2.2.1):Nat):Int):Int)=(0:Int))),((decide ((a1.2.2.1:List (UInt8))=([]:List (UInt8)))),(false,r2.2.1))))
  else bif (decide ((a1.1:Int)=(10:Int))) then bif (!(decide ((r2.2.2.2.1:Int)=(0:Int)))) then some (.inl ((decide (((((List.length a1.2.2.2.1):Nat):Int):Int)=(0:Int))),((decide ((a1.2.2.1:List (UInt8))=([]:List (UInt8)))),((decide ((r2.2.2.2.1:Int)=(1:Int))),r2.2.1))))
  else some (.inl ((decide (((((List.length a1.2.2.2.1):Nat):Int):Int)=(0:Int))),((decide ((a1.2.2.1:List (UInt8))=([]:List (UInt8)))),(true,r2.2.1))))
  else bif (decide ((a1.1:Int)=(12:Int))) then (bif (decide ((1:Int)≤(((List.length r2.2.2.2.2.2.1):Nat):Int))) then some ((decide ((((List.length r2.2.2.2.2.2.1):Nat):Int)≤(8:Int))),r2.2)
   else some (false,r2.2)).bind fun r3=>
  (Lf.loopU (σ:=(Int)×((Bool)×xT187)) (κ:=(Bool)×xT187) (fun z4=>
    bif (decide (z4.1<(((List.length r3.2.2.2.2.2.1):Nat):Int))) then (((Lf.idx r3.2.2.2.2.2.1 z4.1)).bind fun r5=>
     bif z4.2.1 then bif (decide ((0:Int)≤r5)) then some ((decide (r5≤(100:Int))),z4.2.2)
     else some (false,z4.2.2)
     else some (false,z4.2.2)).bind fun r6=>
    some (.inl ((Go.IntKind.wrap .i64 (z4.1+(1:Int))),r6))
    else some (.inr z4.2)) ((0:Int),(r3.1,r3.2.1)):Option ((Bool)×xT187)).bind fun r7=>
  some (.inl (r7.1,((decide ((a1.2.2.1:List (UInt8))=([]:List (UInt8)))),((decide ((a1.2.1:Int)=(0:Int))),r7.2))))
  else (bif (decide ((a1.1:Int)=(5:Int))) then some ((decide ((a1.1:Int)=(5:Int))),r2.2.1)
   else bif (decide ((a1.1:Int)=(6:Int))) then some ((decide ((a1.1:Int)=(6:Int))),r2.2.1)
   else bif (decide ((a1.1:Int)=(7:Int))) then some ((decide ((a1.1:Int)=(7:Int))),r2.2.1)
   else bif (decide ((a1.1:Int)=(9:Int))) then some ((decide ((a1.1:Int)=(9:Int))),r2.2.1)
   else bif (decide ((a1.1:Int)=(11:Int))) then some ((decide ((a1.1:Int)=(11:Int))),r2.2.1)
   else bif (decide ((a1.1:Int)=(13:Int))) then some ((decide ((a1.1:Int)=(13:Int))),r2.2.1)
   else some ((decide ((a1.1:Int)=(14:Int))),r2.2.1)).bind fun r8=>
  bif r8.1 then some (.inl ((decide (((((List.length a1.2.2.2.1):Nat):Int):Int)=(0:Int))),((decide ((a1.2.2.1:List (UInt8))=([]:List (UInt8)))),((decide ((a1.2.1:Int)=(0:Int))),r8.2))))
  else some (.inr (false,r8.2)):Option (((Bool)×((Bool)×((Bool)×xT187)))⊕((Bool)×xT187))).bind fun r9=>
 Lf.onSum r9 (fun a10=>
 (bif a10.2.2.1 then bif a10.2.1 then some (a10.1,a10.2.2.2)
  else some (false,a10.2.2.2)
  else some (false,a10.2.2.2)).bind fun r11=>
 some r11) (fun b12=>
 some b12)
theorem ir_walker__form_eq (a0:(((Int)×xT8)×xT185)×xT8) (a1:(Int)×((Int)×xT3)):Lf.fnE ir_walker__formCtx ir_walker__formCode ir_walker__formAnn [.obj 109 xY199 xY199 [], .val (.st xY19)] [.bool] [.tmp 4] (a0,a1)=ir_walker__form a0 a1:=by kernel_rfl
noncomputable def ir_walker__formEnt:Nat×Lf.Entry:=(29,⟨[.obj 109 xY199 xY199 [], .val (.st xY19)],[.bool],fun z=>ir_walker__form z.1 z.2⟩)
theorem ir_walker__form_ok:Lf.EntryOk Go.Proofs.Tryd.prog GG 29 ir_walker__formEnt.2:=
 Lf.fn_ok (c:=ir_walker__formCtx) (code:=ir_walker__formCode) (an:=ir_walker__formAnn) (slots:=[.tmp 4]) (fn:=Go.Proofs.Tryd.f29) (by kernel_rfl) ⟨Tys_ok,Lf.FnsOk.look (.con ir_plain_ok .nil),Lf.IpsOk.look .nil,TysEq_ok,TysIm_ok,Lf.IvsOk.look .nil,Lf.FxsOk.look .nil⟩ (by kernel_rfl) (by kernel_rfl) (by kernel_rfl) (by kernel_rfl) (by kernel_rfl) (Nat.le_of_ble_eq_true rfl) (by simp [Lf.Ty.top]) (by simp [Lf.Ty.top]) fun z r h=>(ir_walker__form_eq z.1 z.2).trans h
noncomputable def ir_walker__paraCtx:Lf.Ctx:=⟨22,Tys,[],[],[],[],[],TysEq,[],some 4611686018427387904,TysIm,[]⟩
noncomputable def ir_walker__paraCode:Go.Code:=(Go.Proofs.Tryd.f47.body).getD .skip
def ir_walker__paraAnn:Lf.Ann:=(.seq .no (.seq (.seq .no (.loop ⟨[],[(0, .ref 0 [] 0)],[(3,(.int .i64))],[(0,109,xY199)],[]⟩ (.more (.ext 0) ⟨[],[(0, .ref 0 [] 0)],[],[(0,109,xY199)],[]⟩ (.one .ret ⟨[],[(0, .ref 0 [] 0)],[(2,(.int .i64))],[(0,109,xY199)],[]⟩)) .no)) .no))
noncomputable def ir_walker__para (a0:(((Int)×xT8)×xT185)×xT8):Option ((Int)×xT187):=
 (Lf.loopU (σ:=(Int)×xT187) (κ:=xT187⊕((Int)×xT187)) (fun z1=>
   bif (decide ((0:Int)≤z1.1)) then ((Lf.chk (26:Nat) z1.1)).bind fun r2=>
   ((Lf.nth (Lf.arL xY33 (26:Nat) z1.2.1) r2)).bind fun r3=>
   bif (decide ((r3.1:Int)=(8:Int))) then some (.inr (.inr z1))
   else some (.inl ((Go.IntKind.wrap .i64 (z1.1 - (1:Int))),z1.2))
   else some (.inr (.inl z1.2))) ((Go.IntKind.wrap .i64 (a0.2.1 - (1:Int))),a0):Option (xT187⊕((Int)×xT187))).bind fun r4=>
 Lf.onSum r4 (fun a5=>
 some ((-(1:Int)),a5)) (fun b6=>
 some b6)
theorem ir_walker__para_eq (a0:(((Int)×xT8)×xT185)×xT8):Lf.fnE ir_walker__paraCtx ir_walker__paraCode ir_walker__paraAnn [.obj 109 xY199 xY199 []] [(.int .i64)] [.tmp 2] (a0)=ir_walker__para a0:=by kernel_rfl
noncomputable def ir_walker__paraEnt:Nat×Lf.Entry:=(47,⟨[.obj 109 xY199 xY199 []],[(.int .i64)],fun z=>ir_walker__para z⟩)
theorem ir_walker__para_ok:Lf.EntryOk Go.Proofs.Tryd.prog GG 47 ir_walker__paraEnt.2:=
 Lf.fn_ok (c:=ir_walker__paraCtx) (code:=ir_walker__paraCode) (an:=ir_walker__paraAnn) (slots:=[.tmp 2]) (fn:=Go.Proofs.Tryd.f47) (by kernel_rfl) ⟨Tys_ok,Lf.FnsOk.look .nil,Lf.IpsOk.look .nil,TysEq_ok,TysIm_ok,Lf.IvsOk.look .nil,Lf.FxsOk.look .nil⟩ (by kernel_rfl) (by kernel_rfl) (by kernel_rfl) (by kernel_rfl) (by kernel_rfl) (Nat.le_of_ble_eq_true rfl) (by simp [Lf.Ty.top]) (by simp [Lf.Ty.top]) fun z r h=>(ir_walker__para_eq z).trans h
noncomputable def ir_walker__pushCtx:Lf.Ctx:=⟨20,Tys,[],[],[],[],[],TysEq,[],some 4611686018427387904,TysIm,[]⟩
noncomputable def ir_walker__pushCode:Go.Code:=(Go.Proofs.Tryd.f48.body).getD .skip
def ir_walker__pushAnn:Lf.Ann:=(.seq .no (.seq (.draw 9) .no))
noncomputable def ir_walker__push (a0:(((Int)×xT8)×xT185)×xT8) (a1:(Int)×xT8):Option xT187:=
 ((Lf.chk (26:Nat) a0.2.1)).bind fun r1=>
 ((Lf.nth (Lf.arL xY33 (26:Nat) a0.1) r1)).bind fun r2=>
 some ((Lf.arS xY33 (26:Nat) a0.1 r1 a1),((Go.IntKind.wrap .i64 (a0.2.1+(1:Int))),a0.2.2))
theorem ir_walker__push_eq (a0:(((Int)×xT8)×xT185)×xT8) (a1:(Int)×xT8):Lf.fnE ir_walker__pushCtx ir_walker__pushCode ir_walker__pushAnn [.obj 109 xY199 xY199 [], .val xY33] [] [] (a0,a1)=ir_walker__push a0 a1:=by kernel_rfl
noncomputable def ir_walker__pushEnt:Nat×Lf.Entry:=(48,⟨[.obj 109 xY199 xY199 [], .val xY33],[],fun z=>ir_walker__push z.1 z.2⟩)
theorem ir_walker__push_ok:Lf.EntryOk Go.Proofs.Tryd.prog GG 48 ir_walker__pushEnt.2:=
 Lf.fn_ok (c:=ir_walker__pushCtx) (code:=ir_walker__pushCode) (an:=ir_walker__pushAnn) (slots:=[]) (fn:=Go.Proofs.Tryd.f48) (by kernel_rfl) ⟨Tys_ok,Lf.FnsOk.look .nil,Lf.IpsOk.look .nil,TysEq_ok,TysIm_ok,Lf.IvsOk.look .nil,Lf.FxsOk.look .nil⟩ (by kernel_rfl) (by kernel_rfl) (by kernel_rfl) (by kernel_rfl) (by kernel_rfl) (Nat.le_of_ble_eq_true rfl) (by simp [Lf.Ty.top]) (by simp [Lf.Ty.top]) fun z r h=>(ir_walker__push_eq z.1 z.2).trans h
noncomputable def ir_walker__topCtx:Lf.Ctx:=⟨17,Tys,[],[],[],[],[],TysEq,[],some 4611686018427387904,TysIm,[]⟩
noncomputable def ir_walker__topCode:Go.Code:=(Go.Proofs.Tryd.f50.body).getD .skip
def ir_walker__topAnn:Lf.Ann:=(.seq .no (.seq .no (.seq (.draw 10) .no)))
noncomputable def ir_walker__topP (a0:(((Int)×xT8)×xT185)×xT8):Option (Option Nat×xT187):=
 bif (decide ((a0.2.1:Int)=(0:Int))) then some ((none:Option (Nat)),a0)
 else ((Lf.chk (26:Nat) (Go.IntKind.wrap .i64 (a0.2.1 - (1:Int))))).bind fun r1=>
 some ((some r1),a0)
theorem ir_walker__top_eq (a0:(((Int)×xT8)×xT185)×xT8):Lf.ipE ir_walker__topCtx ir_walker__topCode ir_walker__topAnn 109 xY199 [] [.i, .l] 0 5 2 a0=ir_walker__topP a0:=by kernel_rfl
noncomputable def ir_walker__top (a0:(((Int)×xT8)×xT185)×xT8):Option (Option Nat):=(ir_walker__topP a0).map (·.1)
theorem ir_walker__top_same (a0:(((Int)×xT8)×xT185)×xT8):Lf.Same a0 (ir_walker__topP a0):=by
 unfold ir_walker__topP
 repeat' (first | exact Lf.Same.some | exact Lf.Same.none | refine Lf.Same.cond _ ?_ ?_ | refine Lf.Same.bind _ (fun _=>?_))
noncomputable def ir_walker__topIp:Nat×Lf.Ip:=(50,⟨109,xY199,[],[.i, .l],0,5,fun z=>ir_walker__top z⟩)
theorem ir_walker__top_ok:Lf.IpOk Go.Proofs.Tryd.prog GG 50 ir_walker__topIp.2:=
 Lf.ip_ok (c:=ir_walker__topCtx) (code:=ir_walker__topCode) (an:=ir_walker__topAnn) (slot:=2) (fn:=Go.Proofs.Tryd.f50) (by kernel_rfl) ⟨Tys_ok,Lf.FnsOk.look .nil,Lf.IpsOk.look .nil,TysEq_ok,TysIm_ok,Lf.IvsOk.look .nil,Lf.FxsOk.look .nil⟩ (by kernel_rfl) (by kernel_rfl) (by kernel_rfl) (by kernel_rfl) (by kernel_rfl) (Nat.le_of_ble_eq_true rfl) (by kernel_rfl) fun z m h=>(ir_walker__top_eq z).trans (Lf.Same.get (ir_walker__top_same z) h)
noncomputable def ir_walker__withinCtx:Lf.Ctx:=⟨18,Tys,[],[],[],[],[ir_walker__topIp],TysEq,[],some 4611686018427387904,TysIm,[]⟩
noncomputable def ir_walker__withinCode:Go.Code:=(Go.Proofs.Tryd.f49.body).getD .skip
def ir_walker__withinAnn:Lf.Ann:=(.seq .no (.seq .no (.seq (.join (.one .nrm ⟨[],[(0, .ref 0 [] 0)],[(4, .bool)],[(0,109,xY199)],[]⟩) .no) .no)))
noncomputable def ir_walker__within (a0:(((Int)×xT8)×xT185)×xT8) (a1:Int):Option ((Bool)×xT187):=
 ((Go.Fn.ir_walker__top a0)).bind fun r1=>
 (bif (Option.isSome r1) then (r1).bind fun r2=>
  ((Lf.nth (Lf.arL xY33 (26:Nat) a0.1) r2)).bind fun r3=>
  some ((decide ((r3.1:Int)=a1)),a0)
  else some (false,a0)).bind fun r4=>
 some r4
theorem ir_walker__within_eq (a0:(((Int)×xT8)×xT185)×xT8) (a1:Int):Lf.fnE ir_walker__withinCtx ir_walker__withinCode ir_walker__withinAnn [.obj 109 xY199 xY199 [], .val (.int .i64)] [.bool] [.tmp 4] (a0,a1)=ir_walker__within a0 a1:=by kernel_rfl
noncomputable def ir_walker__withinEnt:Nat×Lf.Entry:=(49,⟨[.obj 109 xY199 xY199 [], .val (.int .i64)],[.bool],fun z=>ir_walker__within z.1 z.2⟩)
theorem ir_walker__within_ok:Lf.EntryOk Go.Proofs.Tryd.prog GG 49 ir_walker__withinEnt.2:=
 Lf.fn_ok (c:=ir_walker__withinCtx) (code:=ir_walker__withinCode) (an:=ir_walker__withinAnn) (slots:=[.tmp 4]) (fn:=Go.Proofs.Tryd.f49) (by kernel_rfl) ⟨Tys_ok,Lf.FnsOk.look .nil,Lf.IpsOk.look (.con ir_walker__top_ok .nil),TysEq_ok,TysIm_ok,Lf.IvsOk.look .nil,Lf.FxsOk.look .nil⟩ (by kernel_rfl) (by kernel_rfl) (by kernel_rfl) (by kernel_rfl) (by kernel_rfl) (Nat.le_of_ble_eq_true rfl) (by simp [Lf.Ty.top]) (by simp [Lf.Ty.top]) fun z r h=>(ir_walker__within_eq z.1 z.2).trans h
noncomputable def ir_walker__itemCtx:Lf.Ctx:=⟨13,Tys,[ir_walker__withinEnt],[],[],[],[ir_walker__topIp],TysEq,[],some 4611686018427387904,TysIm,[]⟩
noncomputable def ir_walker__itemCode:Go.Code:=(Go.Proofs.Tryd.f66.body).getD .skip
def ir_walker__itemAnn:Lf.Ann:=(.seq .no (.seq (.join (.one .nrm ⟨[],[(0, .ref 0 [] 0)],[(2, .bool)],[(0,109,xY199)],[]⟩) .no) .no))
noncomputable def ir_walker__item (a0:(((Int)×xT8)×xT185)×xT8):Option ((Bool)×xT187):=
 (((Go.Fn.ir_walker__within a0 (10:Int))).bind fun r1=>
  bif r1.1 then ((Go.Fn.ir_walker__top r1.2)).bind fun r2=>
  (r2).bind fun r3=>
  ((Lf.nth (Lf.arL xY33 (26:Nat) r1.2.1) r3)).bind fun r4=>
  some ((decide ((0:Int)<r4.2.1)),r1.2)
  else some (false,r1.2)).bind fun r5=>
 some r5
theorem ir_walker__item_eq (a0:(((Int)×xT8)×xT185)×xT8):Lf.fnE ir_walker__itemCtx ir_walker__itemCode ir_walker__itemAnn [.obj 109 xY199 xY199 []] [.bool] [.tmp 2] (a0)=ir_walker__item a0:=by kernel_rfl
noncomputable def ir_walker__itemEnt:Nat×Lf.Entry:=(66,⟨[.obj 109 xY199 xY199 []],[.bool],fun z=>ir_walker__item z⟩)
theorem ir_walker__item_ok:Lf.EntryOk Go.Proofs.Tryd.prog GG 66 ir_walker__itemEnt.2:=
 Lf.fn_ok (c:=ir_walker__itemCtx) (code:=ir_walker__itemCode) (an:=ir_walker__itemAnn) (slots:=[.tmp 2]) (fn:=Go.Proofs.Tryd.f66) (by kernel_rfl) ⟨Tys_ok,Lf.FnsOk.look (.con ir_walker__within_ok .nil),Lf.IpsOk.look (.con ir_walker__top_ok .nil),TysEq_ok,TysIm_ok,Lf.IvsOk.look .nil,Lf.FxsOk.look .nil⟩ (by kernel_rfl) (by kernel_rfl) (by kernel_rfl) (by kernel_rfl) (by kernel_rfl) (Nat.le_of_ble_eq_true rfl) (by simp [Lf.Ty.top]) (by simp [Lf.Ty.top]) fun z r h=>(ir_walker__item_eq z).trans h
noncomputable def ir_walker__fullCtx:Lf.Ctx:=⟨22,Tys,[],[],[],[],[ir_walker__topIp],TysEq,[],some 4611686018427387904,TysIm,[]⟩
noncomputable def ir_walker__fullCode:Go.Code:=(Go.Proofs.Tryd.f67.body).getD .skip
def ir_walker__fullAnn:Lf.Ann:=(.seq .no (.seq (.join (.one .nrm ⟨[],[(0, .ref 0 [] 0)],[(2, .bool)],[(0,109,xY199)],[]⟩) (.draw 20)) .no))
noncomputable def ir_walker__full (a0:(((Int)×xT8)×xT185)×xT8):Option ((Bool)×xT187):=
 (((Go.Fn.ir_walker__top a0)).bind fun r1=>
  (r1).bind fun r2=>
  ((Lf.nth (Lf.arL xY33 (26:Nat) a0.1) r2)).bind fun r3=>
  bif (!(decide ((r3.2.2.1:Int)=(0:Int)))) then ((Go.Fn.ir_walker__top a0)).bind fun r4=>
  (r4).bind fun r5=>
  ((Lf.nth (Lf.arL xY33 (26:Nat) a0.1) r5)).bind fun r6=>
  ((Go.Fn.ir_walker__top a0)).bind fun r7=>
  (r7).bind fun r8=>
  ((Lf.nth (Lf.arL xY33 (26:Nat) a0.1) r8)).bind fun r9=>
  some ((decide ((r6.2.2.2.1:Int)=r9.2.2.2.2.1)),a0)
  else some (true,a0)).bind fun r10=>
 some r10
theorem ir_walker__full_eq (a0:(((Int)×xT8)×xT185)×xT8):Lf.fnE ir_walker__fullCtx ir_walker__fullCode ir_walker__fullAnn [.obj 109 xY199 xY199 []] [.bool] [.tmp 2] (a0)=ir_walker__full a0:=by kernel_rfl
noncomputable def ir_walker__fullEnt:Nat×Lf.Entry:=(67,⟨[.obj 109 xY199 xY199 []],[.bool],fun z=>ir_walker__full z⟩)
theorem ir_walker__full_ok:Lf.EntryOk Go.Proofs.Tryd.prog GG 67 ir_walker__fullEnt.2:=
 Lf.fn_ok (c:=ir_walker__fullCtx) (code:=ir_walker__fullCode) (an:=ir_walker__fullAnn) (slots:=[.tmp 2]) (fn:=Go.Proofs.Tryd.f67) (by kernel_rfl) ⟨Tys_ok,Lf.FnsOk.look .nil,Lf.IpsOk.look (.con ir_walker__top_ok .nil),TysEq_ok,TysIm_ok,Lf.IvsOk.look .nil,Lf.FxsOk.look .nil⟩ (by kernel_rfl) (by kernel_rfl) (by kernel_rfl) (by kernel_rfl) (by kernel_rfl) (Nat.le_of_ble_eq_true rfl) (by simp [Lf.Ty.top]) (by simp [Lf.Ty.top]) fun z r h=>(ir_walker__full_eq z).trans h
noncomputable def ir_walker__blockCtx:Lf.Ctx:=⟨137,Tys,[ir_walker__pushEnt,ir_walker__withinEnt,ir_walker__itemEnt,ir_walker__fullEnt],[],[],[],[ir_walker__topIp],TysEq,[],some 4611686018427387904,TysIm,[]⟩
noncomputable def ir_walker__blockCode:Go.Code:=(Go.Proofs.Tryd.f51.body).getD .skip
def ir_walker__blockAnn:Lf.Ann:=(.seq .no (.seq .no (.seq (.join (.more .nrm ⟨[],[(0, .ref 0 [] 0)],[],[(0,109,xY199)],[]⟩ (.one .ret ⟨[],[(0, .ref 0 [] 0)],[(4, .bool)],[(0,109,xY199)],[]⟩)) (.seq .no (.seq .no (.cnd (.seq (.seq (.soup 29) .no) .no) (.seq .no (.cnd (.seq (.seq (.join (.one .nrm ⟨[],[(0, .ref 0 [] 0),(3, .ref 3 [] 0)],[(86, .bool)],[(0,109,xY199),(3,40,(.st xY19))],[]⟩) .no) .no) .no) (.seq .no (.cnd .no (.seq .no (.cnd .no (.seq .no (.cnd (.seq (.seq (.join (.one .nrm ⟨[5],[(0, .ref 0 [] 0)],[(125, .bool)],[(0,109,xY199)],[(5,0)]⟩) .no) .no) .no) (.seq (.seq (.join (.one .nrm ⟨[],[(0, .ref 0 [] 0)],[(23, .bool)],[(0,109,xY199)],[]⟩) .no) .no) .no))))))))))))) .no)))
noncomputable def ir_walker__block (a0:(((Int)×xT8)×xT185)×xT8) (a1:(Int)×((Int)×xT3)):Option ((Bool)×xT187):=
 ((Go.Fn.ir_walker__top a0)).bind fun r1=>
 (bif (decide ((a1.1:Int)=(8:Int))) then bif (Option.isSome r1) then none
  else ((Go.Fn.ir_walker__push a0 (a1.1,((0:Int),((0:Int),((0:Int),((0:Int),()))))))).bind fun r2=>
  some (.inl r2)
  else bif (decide ((a1.1:Int)=(10:Int))) then (bif (Option.isSome r1) then ((Go.Fn.ir_walker__item a0)).bind fun r3=>
   bif (!(!r3.1)) then some ((decide ((8:Int)≤r3.2.2.1)),(r3.2,a1))
   else some (true,(r3.2,a1))
   else some ((decide ((8:Int)≤a0.2.1)),(a0,a1))).bind fun r4=>
  bif r4.1 then some (.inr (false,r4.2.1))
  else ((Go.Fn.ir_walker__push r4.2.1 (r4.2.2.1,((0:Int),((0:Int),((0:Int),((0:Int),()))))))).bind fun r5=>
  some (.inl r5)
  else bif (decide ((a1.1:Int)=(11:Int))) then ((Go.Fn.ir_walker__within a0 (10:Int))).bind fun r6=>
  bif (!r6.1) then some (.inr (false,r6.2))
  else (r1).bind fun r7=>
  ((Lf.nth (Lf.arL xY33 (26:Nat) r6.2.1) r7)).bind fun r8=>
  (r1).bind fun r9=>
  ((Lf.nth (Lf.arL xY33 (26:Nat) r6.2.1) r9)).bind fun r10=>
  some (.inl ((Lf.arS xY33 (26:Nat) r6.2.1 r9 (r10.1,((Go.IntKind.wrap .i64 (r8.2.1+(1:Int))),r10.2.2))),r6.2.2))
  else bif (decide ((a1.1:Int)=(12:Int))) then bif (Option.isSome r1) then some (.inr (false,a0))
  else ((Go.Fn.ir_walker__push a0 (a1.1,((0:Int),((0:Int),((0:Int),((((List.length a1.2.2.2.1):Nat):Int),()))))))).bind fun r11=>
  some (.inl r11)
  else bif (decide ((a1.1:Int)=(13:Int))) then (((Go.Fn.ir_walker__within a0 (12:Int))).bind fun r12=>
   bif (!(!r12.1)) then ((Go.Fn.ir_walker__full r12.2)).bind fun r13=>
   some ((!r13.1),r13.2)
   else some (true,r12.2)).bind fun r14=>
  bif r14.1 then some (.inr (false,r14.2))
  else (r1).bind fun r15=>
  ((Lf.nth (Lf.arL xY33 (26:Nat) r14.2.1) r15)).bind fun r16=>
  (r1).bind fun r17=>
  ((Lf.nth (Lf.arL xY33 (26:Nat) r14.2.1) r17)).bind fun r18=>
  (r1).bind fun r19=>
  ((Lf.nth (Lf.arL xY33 (26:Nat) (Lf.arS xY33 (26:Nat) r14.2.1 r17 (Lf.u2 r18 ((Go.IntKind.wrap .i64 (r16.2.2.1+(1:Int))),r18.2.2.2)))) r19)).bind fun r20=>
  some (.inl ((Lf.arS xY33 (26:Nat) (Lf.arS xY33 (26:Nat) r14.2.1 r17 (Lf.u2 r18 ((Go.IntKind.wrap .i64 (r16.2.2.1+(1:Int))),r18.2.2.2))) r19 (Lf.u3 r20 ((0:Int),r20.2.2.2.2))),r14.2.2))
  else (bif (!(Option.isNone r1)) then (r1).bind fun r21=>
   ((Lf.nth (Lf.arL xY33 (26:Nat) a0.1) r21)).bind fun r22=>
   bif (decide ((r22.1:Int)=(12:Int))) then ((Go.Fn.ir_walker__full a0)).bind fun r23=>
   some ((!r23.1),r23.2)
   else some (false,a0)
   else some (true,a0)).bind fun r24=>
  bif r24.1 then some (.inr (false,r24.2))
  else some (.inl (r24.2.1,((Go.IntKind.wrap .i64 (r24.2.2.1 - (1:Int))),r24.2.2.2))):Option (xT187⊕((Bool)×xT187))).bind fun r25=>
 Lf.onSum r25 (fun a26=>
 some (true,a26)) (fun b27=>
 some b27)
theorem ir_walker__block_eq (a0:(((Int)×xT8)×xT185)×xT8) (a1:(Int)×((Int)×xT3)):Lf.fnE ir_walker__blockCtx ir_walker__blockCode ir_walker__blockAnn [.obj 109 xY199 xY199 [], .val (.st xY19)] [.bool] [.tmp 4] (a0,a1)=ir_walker__block a0 a1:=by kernel_rfl
noncomputable def ir_walker__blockEnt:Nat×Lf.Entry:=(51,⟨[.obj 109 xY199 xY199 [], .val (.st xY19)],[.bool],fun z=>ir_walker__block z.1 z.2⟩)
theorem ir_walker__block_ok:Lf.EntryOk Go.Proofs.Tryd.prog GG 51 ir_walker__blockEnt.2:=
 Lf.fn_ok (c:=ir_walker__blockCtx) (code:=ir_walker__blockCode) (an:=ir_walker__blockAnn) (slots:=[.tmp 4]) (fn:=Go.Proofs.Tryd.f51) (by kernel_rfl) ⟨Tys_ok,Lf.FnsOk.look (.con ir_walker__push_ok (.con ir_walker__within_ok (.con ir_walker__item_ok (.con ir_walker__full_ok .nil)))),Lf.IpsOk.look (.con ir_walker__top_ok .nil),TysEq_ok,TysIm_ok,Lf.IvsOk.look .nil,Lf.FxsOk.look .nil⟩ (by kernel_rfl) (by kernel_rfl) (by kernel_rfl) (by kernel_rfl) (by kernel_rfl) (Nat.le_of_ble_eq_true rfl) (by simp [Lf.Ty.top]) (by simp [Lf.Ty.top]) fun z r h=>(ir_walker__block_eq z.1 z.2).trans h
noncomputable def ir_walker__placeCtx:Lf.Ctx:=⟨122,Tys,[ir_walker__paraEnt,ir_walker__pushEnt,ir_walker__withinEnt,ir_walker__blockEnt],[],[],[],[ir_walker__topIp],TysEq,[],some 4611686018427387904,TysIm,[]⟩
noncomputable def ir_walker__placeCode:Go.Code:=(Go.Proofs.Tryd.f30.body).getD .skip
def ir_walker__placeAnn:Lf.Ann:=(.seq .no (.seq .no (.seq (.seq .no (.seq (.seq (.seq (.join (.more .nrm ⟨[5],[(0, .ref 0 [] 0),(3, .ref 3 [] 0)],[],[(0,109,xY199),(3,40,(.st xY19))],[]⟩ (.more (.ext 4) ⟨[5],[(0, .ref 0 [] 0)],[],[(0,109,xY199)],[]⟩ (.more (.ext 5) ⟨[5],[(0, .ref 0 [] 0)],[],[(0,109,xY199)],[]⟩ (.more (.ext 0) ⟨[5],[(0, .ref 0 [] 0),(3, .ref 3 [] 0)],[],[(0,109,xY199),(3,40,(.st xY19))],[]⟩ (.one .ret ⟨[],[(0, .ref 0 [] 0)],[(4, .bool)],[(0,109,xY199)],[]⟩))))) (.seq (.seq (.seq (.seq (.seq (.join (.one .nrm ⟨[5,11],[(0, .ref 0 [] 0),(3, .ref 3 [] 0)],[(12, .bool)],[(0,109,xY199),(3,40,(.st xY19))],[]⟩) .no) .no) (.seq (.seq (.join (.one .nrm ⟨[5,11],[(0, .ref 0 [] 0),(3, .ref 3 [] 0)],[(16, .bool)],[(0,109,xY199),(3,40,(.st xY19))],[]⟩) .no) .no) .no)) .no) .no) (.seq .no (.loop ⟨[5],[(0, .ref 0 [] 0),(3, .ref 3 [] 0)],[(6,(.int .i64))],[(0,109,xY199),(3,40,(.st xY19))],[]⟩ (.more (.ext 6) ⟨[5],[(0, .ref 0 [] 0),(3, .ref 3 [] 0)],[],[(0,109,xY199),(3,40,(.st xY19))],[]⟩ (.one .ret ⟨[],[(0, .ref 0 [] 0)],[(4, .bool)],[(0,109,xY199)],[]⟩)) (.seq .no (.seq (.seq .no (.seq (.join (.one .nrm ⟨[5,6],[(0, .ref 0 [] 0),(3, .ref 3 [] 0)],[(49, .bool)],[(0,109,xY199),(3,40,(.st xY19))],[]⟩) .no) .no)) .no)))))) (.seq (.seq (.seq (.join (.one .nrm ⟨[],[(0, .ref 0 [] 0),(3, .ref 3 [] 0)],[(61, .bool)],[(0,109,xY199),(3,40,(.st xY19))],[]⟩) .no) .no) .no) .no)) (.seq (.seq (.seq (.join (.one .nrm ⟨[],[(0, .ref 0 [] 0)],[(78, .bool)],[(0,109,xY199)],[]⟩) .no) .no) .no) .no)) (.seq (.seq (.seq (.join (.one .nrm ⟨[],[(0, .ref 0 [] 0)],[(97, .bool)],[(0,109,xY199)],[]⟩) .no) .no) (.seq .no (.seq (.join (.one .nrm ⟨[],[(0, .ref 0 [] 0)],[],[(0,109,xY199)],[]⟩) .no) .no))) .no))) (.seq (.join (.one .nrm ⟨[],[(0, .ref 0 [] 0)],[(4, .bool)],[(0,109,xY199)],[]⟩) .no) .no))))
noncomputable def ir_walker__place (a0:(((Int)×xT8)×xT185)×xT8) (a1:(Int)×((Int)×xT3)):Option ((Bool)×xT187):=
 ((Go.Fn.ir_walker__para a0)).bind fun r1=>
 ((bif (decide ((a1.1:Int)=(1:Int))) then some ((decide ((a1.1:Int)=(1:Int))),(r1.2,a1))
   else bif (decide ((a1.1:Int)=(6:Int))) then some ((decide ((a1.1:Int)=(6:Int))),(r1.2,a1))
   else some ((decide ((a1.1:Int)=(7:Int))),(r1.2,a1))).bind fun r2=>
  bif r2.1 then some (.inr (.inr (.inr (.inr ((decide ((0:Int)≤r1.1)),r2.2.1)))))
  else (bif (decide ((a1.1:Int)=(3:Int))) then some ((decide ((a1.1:Int)=(3:Int))),r2.2)
   else some ((decide ((a1.1:Int)=(4:Int))),r2.2)).bind fun r3=>
  bif r3.1 then (Lf.loopU (σ:=(Int)×(xT187×((Int)×((Int)×xT3)))) (κ:=(xT187×((Int)×((Int)×xT3)))⊕((Bool)×xT187)) (fun z4=>
    bif (decide (z4.1<z4.2.1.2.1)) then ((Lf.chk (26:Nat) z4.1)).bind fun r5=>
    ((Lf.nth (Lf.arL xY33 (26:Nat) z4.2.1.1) r5)).bind fun r6=>
    (bif (!(decide ((r6.1:Int)=(3:Int)))) then some ((decide ((r6.1:Int)=(4:Int))),z4.2)
     else some (true,z4.2)).bind fun r7=>
    bif r7.1 then some (.inr (.inr (false,r7.2.1)))
    else some (.inl ((Go.IntKind.wrap .i64 (z4.1+(1:Int))),r7.2))
    else some (.inr (.inl z4.2))) ((Max.max r1.1 (0:Int)),r3.2):Option ((xT187×((Int)×((Int)×xT3)))⊕((Bool)×xT187))).bind fun r8=>
  Lf.onSum r8 (fun a9=>
  some (.inl a9)) (fun b10=>
  some (.inr (.inr (.inr (.inr b10)))))
  else bif (decide ((a1.1:Int)=(2:Int))) then some (.inl r3.2)
  else bif (decide ((a1.1:Int)=(5:Int))) then some (.inr (.inl r3.2.1))
  else bif (decide ((a1.1:Int)=(9:Int))) then some (.inr (.inr (.inl r3.2.1)))
  else some (.inr (.inr (.inr (.inl r3.2)))):Option ((xT187×((Int)×((Int)×xT3)))⊕(xT187⊕(xT187⊕((xT187×((Int)×((Int)×xT3)))⊕((Bool)×xT187)))))).bind fun r11=>
 Lf.onSum r11 (fun a12=>
 (bif (!(decide (r1.1<(0:Int)))) then some ((decide ((16:Int)≤(Go.IntKind.wrap .i64 ((Go.IntKind.wrap .i64 (a12.1.2.1 - r1.1)) - (1:Int))))),a12)
  else some (true,a12)).bind fun r13=>
 bif r13.1 then some (false,r13.2.1)
 else ((Go.Fn.ir_walker__push r13.2.1 (r13.2.2.1,((0:Int),((0:Int),((0:Int),((0:Int),()))))))).bind fun r14=>
 some (true,r14)) (fun b15=>
 Lf.onSum b15 (fun a16=>
 (bif (!(decide (r1.1<(0:Int)))) then some ((decide ((Go.IntKind.wrap .i64 ((Go.IntKind.wrap .i64 (a16.2.1 - r1.1)) - (1:Int)))<(1:Int))),a16)
  else some (true,a16)).bind fun r17=>
 bif r17.1 then some (false,r17.2)
 else some (true,(r17.2.1,((Go.IntKind.wrap .i64 (r17.2.2.1 - (1:Int))),r17.2.2.2)))) (fun b18=>
 Lf.onSum b18 (fun a19=>
 (bif (!(decide (r1.1<(0:Int)))) then some ((decide ((0:Int)<(Go.IntKind.wrap .i64 ((Go.IntKind.wrap .i64 (a19.2.1 - r1.1)) - (1:Int))))),a19)
  else some (true,a19)).bind fun r20=>
 bif r20.1 then some (false,r20.2)
 else (((Go.Fn.ir_walker__within (r20.2.1,((Go.IntKind.wrap .i64 (r20.2.2.1 - (1:Int))),r20.2.2.2)) (12:Int))).bind fun r21=>
  bif r21.1 then ((Go.Fn.ir_walker__top r21.2)).bind fun r22=>
  (r22).bind fun r23=>
  ((Lf.nth (Lf.arL xY33 (26:Nat) r21.2.1) r23)).bind fun r24=>
  (r22).bind fun r25=>
  ((Lf.nth (Lf.arL xY33 (26:Nat) r21.2.1) r25)).bind fun r26=>
  some ((Lf.arS xY33 (26:Nat) r21.2.1 r25 (Lf.u3 r26 ((Go.IntKind.wrap .i64 (r24.2.2.2.1+(1:Int))),r26.2.2.2.2))),r21.2.2)
  else some r21.2).bind fun r27=>
 some (true,r27)) (fun b28=>
 Lf.onSum b28 (fun a29=>
 (bif (decide (r1.1<(0:Int))) then ((Go.Fn.ir_walker__block a29.1 a29.2)).bind fun r30=>
  some r30
  else some (false,a29.1)).bind fun r31=>
 some r31) (fun b32=>
 some b32))))
theorem ir_walker__place_eq (a0:(((Int)×xT8)×xT185)×xT8) (a1:(Int)×((Int)×xT3)):Lf.fnE ir_walker__placeCtx ir_walker__placeCode ir_walker__placeAnn [.obj 109 xY199 xY199 [], .val (.st xY19)] [.bool] [.tmp 4] (a0,a1)=ir_walker__place a0 a1:=by kernel_rfl
noncomputable def ir_walker__placeEnt:Nat×Lf.Entry:=(30,⟨[.obj 109 xY199 xY199 [], .val (.st xY19)],[.bool],fun z=>ir_walker__place z.1 z.2⟩)
theorem ir_walker__place_ok:Lf.EntryOk Go.Proofs.Tryd.prog GG 30 ir_walker__placeEnt.2:=
 Lf.fn_ok (c:=ir_walker__placeCtx) (code:=ir_walker__placeCode) (an:=ir_walker__placeAnn) (slots:=[.tmp 4]) (fn:=Go.Proofs.Tryd.f30) (by kernel_rfl) ⟨Tys_ok,Lf.FnsOk.look (.con ir_walker__para_ok (.con ir_walker__push_ok (.con ir_walker__within_ok (.con ir_walker__block_ok .nil)))),Lf.IpsOk.look (.con ir_walker__top_ok .nil),TysEq_ok,TysIm_ok,Lf.IvsOk.look .nil,Lf.FxsOk.look .nil⟩ (by kernel_rfl) (by kernel_rfl) (by kernel_rfl) (by kernel_rfl) (by kernel_rfl) (Nat.le_of_ble_eq_true rfl) (by simp [Lf.Ty.top]) (by simp [Lf.Ty.top]) fun z r h=>(ir_walker__place_eq z.1 z.2).trans h
noncomputable def ir_CheckCtx:Lf.Ctx:=⟨69,Tys,[ir_walker__formEnt,ir_walker__placeEnt],[],[],[],[],TysEq,[],some 4611686018427387904,TysIm,[]⟩
noncomputable def ir_CheckCode:Go.Code:=(Go.Proofs.Tryd.f17.body).getD .skip
def ir_CheckAnn:Lf.Ann:=(.seq .no (.seq .no (.seq (.seq .no (.loop ⟨[14,0,2,1,15],[],[(16,(.int .i64)),(8,(.int .i64))],[],[]⟩ (.one (.ext 0) ⟨[0,2,1],[],[(8,(.int .i64))],[],[]⟩) .no)) (.seq (.seq (.join (.one .nrm ⟨[0,2,1],[],[(33, .bool)],[],[]⟩) .no) .no) (.seq .no (.seq (.seq .no (.loop ⟨[38,0,39],[(11, .ref 37 [] 0)],[(40,(.int .i64))],[(37,109,xY199)],[]⟩ (.more (.ext 2) ⟨[0],[(11, .ref 37 [] 0)],[],[(37,109,xY199)],[]⟩ (.one .ret ⟨[],[],[(6,(.int .i64)),(7,(.int .i64))],[],[]⟩)) (.seq .no (.seq .no (.seq (.seq .no (.seq (.seq (.join (.one .nrm ⟨[12,38,0,39,40],[(11, .ref 37 [] 0),(13, .ref 13 [] 0)],[(54, .bool)],[(37,109,xY199),(13,40,(.st xY19))],[]⟩) .no) .no) .no)) .no))))) .no))))))
noncomputable def ir_Check (a0:List ((Int)×((Int)×xT3))) (a1:Int) (a2:Int):Option ((Int)×(Int)):=
 (Lf.loopU (σ:=(Int)×(Int)) (κ:=Int) (fun z1=>
   bif (decide (z1.1<(((List.length a0):Nat):Int))) then ((Lf.idx a0 z1.1)).bind fun r2=>
   some (.inl ((Go.IntKind.wrap .i64 (z1.1+(1:Int))),(Min.min (Go.IntKind.wrap .i64 (z1.2+(((List.length r2.2.2.1):Nat):Int))) (16385:Int))))
   else some (.inr z1.2)) ((0:Int),(0:Int)):Option (Int)).bind fun r3=>
 (bif (!(decide ((65536:Int)<(((List.length a0):Nat):Int)))) then some (decide ((16384:Int)<r3))
  else some true).bind fun r4=>
 bif r4 then some ((0:Int),(2:Int))
 else (Lf.loopU (σ:=(Int)×xT187) (κ:=xT187⊕((Int)×(Int))) (fun z5=>
   bif (decide (z5.1<(((List.length a0):Nat):Int))) then ((Lf.idx a0 z5.1)).bind fun r6=>
   (((Go.Fn.ir_walker__form z5.2 r6)).bind fun r7=>
    bif (!(!r7.1)) then ((Go.Fn.ir_walker__place r7.2 r6)).bind fun r8=>
    some ((!r8.1),(r8.2,r6))
    else some (true,(r7.2,r6))).bind fun r9=>
   bif r9.1 then some (.inr (.inr (z5.1,(110:Int))))
   else some (.inl ((Go.IntKind.wrap .i64 (z5.1+(1:Int))),(Lf.u4 r9.2.1 (r9.2.2.1,r9.2.1.2.2.2.2.2))))
   else some (.inr (.inl z5.2))) ((0:Int),((((0:Int),((0:Int),((0:Int),((0:Int),((0:Int),()))))),(((0:Int),((0:Int),((0:Int),((0:Int),((0:Int),()))))),(((0:Int),((0:Int),((0:Int),((0:Int),((0:Int),()))))),(((0:Int),((0:Int),((0:Int),((0:Int),((0:Int),()))))),(((0:Int),((0:Int),((0:Int),((0:Int),((0:Int),()))))),(((0:Int),((0:Int),((0:Int),((0:Int),((0:Int),()))))),(((0:Int),((0:Int),((0:Int),((0:Int),((0:Int),()))))),(((0:Int),((0:Int),((0:Int),((0:Int),((0:Int),()))))),(((0:Int),((0:Int),((0:Int),((0:Int),((0:Int),()))))),(((0:Int),((0:Int),((0:Int),((0:Int),((0:Int),()))))),(((0:Int),((0:Int),((0:Int),((0:Int),((0:Int),()))))),(((0:Int),((0:Int),((0:Int),((0:Int),((0:Int),()))))),(((0:Int),((0:Int),((0:Int),((0:Int),((0:Int),()))))),(((0:Int),((0:Int),((0:Int),((0:Int),((0:Int),()))))),(((0:Int),((0:Int),((0:Int),((0:Int),((0:Int),()))))),(((0:Int),((0:Int),((0:Int),((0:Int),((0:Int),()))))),(((0:Int),((0:Int),((0:Int),((0:Int),((0:Int),()))))),(((0:Int),((0:Int),((0:Int),((0:Int),((0:Int),()))))),(((0:Int),((0:Int),((0:Int),((0:Int),((0:Int),()))))),(((0:Int),((0:Int),((0:Int),((0:Int),((0:Int),()))))),(((0:Int),((0:Int),((0:Int),((0:Int),((0:Int),()))))),(((0:Int),((0:Int),((0:Int),((0:Int),((0:Int),()))))),(((0:Int),((0:Int),((0:Int),((0:Int),((0:Int),()))))),(((0:Int),((0:Int),((0:Int),((0:Int),((0:Int),()))))),(((0:Int),((0:Int),((0:Int),((0:Int),((0:Int),()))))),(((0:Int),((0:Int),((0:Int),((0:Int),((0:Int),()))))),())))))))))))))))))))))))))),((0:Int),(a1,(a2,((0:Int),())))))):Option (xT187⊕((Int)×(Int)))).bind fun r10=>
 Lf.onSum r10 (fun a11=>
 bif (decide ((0:Int)<a11.2.1)) then some ((((List.length a0):Nat):Int),(110:Int))
 else some ((0:Int),(0:Int))) (fun b12=>
 some b12)
theorem ir_Check_eq (a0:List ((Int)×((Int)×xT3))) (a1:Int) (a2:Int):Lf.fnE ir_CheckCtx ir_CheckCode ir_CheckAnn [.val (.sl (.st xY19)), .val (.int .i64), .val (.int .i64)] [(.int .i64),(.int .i64)] [.tmp 6, .tmp 7] (a0,a1,a2)=ir_Check a0 a1 a2:=by kernel_rfl
noncomputable def ir_CheckEnt:Nat×Lf.Entry:=(17,⟨[.val (.sl (.st xY19)), .val (.int .i64), .val (.int .i64)],[(.int .i64),(.int .i64)],fun z=>ir_Check z.1 z.2.1 z.2.2⟩)
theorem ir_Check_ok:Lf.EntryOk Go.Proofs.Tryd.prog GG 17 ir_CheckEnt.2:=
 Lf.fn_ok (c:=ir_CheckCtx) (code:=ir_CheckCode) (an:=ir_CheckAnn) (slots:=[.tmp 6, .tmp 7]) (fn:=Go.Proofs.Tryd.f17) (by kernel_rfl) ⟨Tys_ok,Lf.FnsOk.look (.con ir_walker__form_ok (.con ir_walker__place_ok .nil)),Lf.IpsOk.look .nil,TysEq_ok,TysIm_ok,Lf.IvsOk.look .nil,Lf.FxsOk.look .nil⟩ (by kernel_rfl) (by kernel_rfl) (by kernel_rfl) (by kernel_rfl) (by kernel_rfl) (Nat.le_of_ble_eq_true rfl) (by simp [Lf.Ty.top]) (by simp [Lf.Ty.top]) fun z r h=>(ir_Check_eq z.1 z.2.1 z.2.2).trans h
end Go.Fn
open Go Go.Lf
set_option maxRecDepth 10000
namespace Go.Fn
noncomputable def layout_marker__waitingCtx:Lf.Ctx:=⟨8,Tys,[],[],[],[],[],TysEq,[],some 4611686018427387904,TysIm,[]⟩
noncomputable def layout_marker__waitingCode:Go.Code:=(Go.Proofs.Tryd.f32.body).getD .skip
def layout_marker__waitingAnn:Lf.Ann:= .no
noncomputable def layout_marker__waiting (a0:(Int)×((Int)×((List (UInt8))×(Unit)))):Option (Bool):=
 some (decide ((a0.1:Int)=(1:Int)))
theorem layout_marker__waiting_eq (a0:(Int)×((Int)×((List (UInt8))×(Unit)))):Lf.fnE layout_marker__waitingCtx layout_marker__waitingCode layout_marker__waitingAnn [.val (.ptr (.st xY12))] [.bool] [.tmp 2] (a0)=layout_marker__waiting a0:=by kernel_rfl
noncomputable def layout_marker__waitingEnt:Nat×Lf.Entry:=(32,⟨[.val (.ptr (.st xY12))],[.bool],fun z=>layout_marker__waiting z⟩)
theorem layout_marker__waiting_ok:Lf.EntryOk Go.Proofs.Tryd.prog GG 32 layout_marker__waitingEnt.2:=
 Lf.fn_ok (c:=layout_marker__waitingCtx) (code:=layout_marker__waitingCode) (an:=layout_marker__waitingAnn) (slots:=[.tmp 2]) (fn:=Go.Proofs.Tryd.f32) (by kernel_rfl) ⟨Tys_ok,Lf.FnsOk.look .nil,Lf.IpsOk.look .nil,TysEq_ok,TysIm_ok,Lf.IvsOk.look .nil,Lf.FxsOk.look .nil⟩ (by kernel_rfl) (by kernel_rfl) (by kernel_rfl) (by kernel_rfl) (by kernel_rfl) (Nat.le_of_ble_eq_true rfl) (by simp [Lf.Ty.top]) (by simp [Lf.Ty.top]) fun z r h=>(layout_marker__waiting_eq z).trans h
noncomputable def layout_setter__tellCtx:Lf.Ctx:=⟨27,Tys,[],[20],[],[(20,xY44)],[],TysEq,[],some 4611686018427387904,TysIm,[]⟩
noncomputable def layout_setter__tellCode:Go.Code:=(Go.Proofs.Tryd.f33.body).getD .skip
def layout_setter__tellAnn:Lf.Ann:= .no
noncomputable def layout_setter__tell (a0:xT7×xT191) (a1:List xT20):Option (xT7×xT191):=
 bif (decide ((2000:Int)≤(((List.length a0.2.2.2.2.2.2.2.2.2.1.1):Nat):Int))) then some (Lf.u9 a0 ((Lf.u3 a0.2.2.2.2.2.2.2.2.2.1 (true,a0.2.2.2.2.2.2.2.2.2.1.2.2.2.2)),a0.2.2.2.2.2.2.2.2.2.2))
 else ((Lf.app (24:Nat) a0.2.2.2.2.2.2.2.2.2.1.1 (a1::([]:List (List xT20))))).bind fun r1=>
 some (Lf.u9 a0 ((r1,a0.2.2.2.2.2.2.2.2.2.1.2),a0.2.2.2.2.2.2.2.2.2.2))
theorem layout_setter__tell_eq (a0:xT7×xT191) (a1:List xT20):Lf.fnE layout_setter__tellCtx layout_setter__tellCode layout_setter__tellAnn [.obj 74 (.st xY200) (.st xY200) [], .val (.sl (.st xY36))] [] [] (a0,a1)=layout_setter__tell a0 a1:=by kernel_rfl
noncomputable def layout_setter__tellEnt:Nat×Lf.Entry:=(33,⟨[.obj 74 (.st xY200) (.st xY200) [], .val (.sl (.st xY36))],[],fun z=>layout_setter__tell z.1 z.2⟩)
theorem layout_setter__tell_ok:Lf.EntryOk Go.Proofs.Tryd.prog GG 33 layout_setter__tellEnt.2:=
 Lf.fn_ok (c:=layout_setter__tellCtx) (code:=layout_setter__tellCode) (an:=layout_setter__tellAnn) (slots:=[]) (fn:=Go.Proofs.Tryd.f33) (by kernel_rfl) ⟨Tys_ok,Lf.FnsOk.look .nil,Lf.IpsOk.look .nil,TysEq_ok,TysIm_ok,Lf.IvsOk.look .nil,Lf.FxsOk.look .nil⟩ (by kernel_rfl) (by kernel_rfl) (by kernel_rfl) (by kernel_rfl) (by kernel_rfl) (Nat.le_of_ble_eq_true rfl) (by simp [Lf.Ty.top]) (by simp [Lf.Ty.top]) fun z r h=>(layout_setter__tell_eq z.1 z.2).trans h
noncomputable def layout_plainCtx:Lf.Ctx:=⟨2,Tys,[],[],[],[],[],TysEq,[],some 4611686018427387904,TysIm,[]⟩
noncomputable def layout_plainCode:Go.Code:=(Go.Proofs.Tryd.f57.body).getD .skip
def layout_plainAnn:Lf.Ann:= .no
noncomputable def layout_plain  :Option ((Int)×((Int)×(Unit))):=
 some ((0:Int),((7:Int),()))
theorem layout_plain_eq  :Lf.fnE layout_plainCtx layout_plainCode layout_plainAnn [] [(.st xY1)] [.cell 0 47] ()=layout_plain  :=by kernel_rfl
noncomputable def layout_plainEnt:Nat×Lf.Entry:=(57,⟨[],[(.st xY1)],fun _=>layout_plain ⟩)
theorem layout_plain_ok:Lf.EntryOk Go.Proofs.Tryd.prog GG 57 layout_plainEnt.2:=
 Lf.fn_ok (c:=layout_plainCtx) (code:=layout_plainCode) (an:=layout_plainAnn) (slots:=[.cell 0 47]) (fn:=Go.Proofs.Tryd.f57) (by kernel_rfl) ⟨Tys_ok,Lf.FnsOk.look .nil,Lf.IpsOk.look .nil,TysEq_ok,TysIm_ok,Lf.IvsOk.look .nil,Lf.FxsOk.look .nil⟩ (by kernel_rfl) (by kernel_rfl) (by kernel_rfl) (by kernel_rfl) (by kernel_rfl) (Nat.le_of_ble_eq_true rfl) (by simp [Lf.Ty.top]) (by simp [Lf.Ty.top]) fun z r h=>(layout_plain_eq ).trans h
noncomputable def layout_looks__topCtx:Lf.Ctx:=⟨19,Tys,[layout_plainEnt],[],[],[],[],TysEq,[],some 4611686018427387904,TysIm,[]⟩
noncomputable def layout_looks__topCode:Go.Code:=(Go.Proofs.Tryd.f37.body).getD .skip
def layout_looks__topAnn:Lf.Ann:=(.seq .no (.seq .no (.seq (.draw 10) .no)))
noncomputable def layout_looks__top (a0:xT166×xT107):Option ((Int)×((Int)×(Unit))):=
 bif (decide ((a0.2.2.1:Int)=(0:Int))) then (Go.Fn.layout_plain).bind fun r1=>
 some r1
 else ((Lf.idx (Lf.arL (.st xY1) (32:Nat) a0.1) (Go.IntKind.wrap .i64 (a0.2.2.1 - (1:Int))))).bind fun r2=>
 some r2
theorem layout_looks__top_eq (a0:xT166×xT107):Lf.fnE layout_looks__topCtx layout_looks__topCode layout_looks__topAnn [.val (.ptr xY195)] [(.st xY1)] [.cell 2 47] (a0)=layout_looks__top a0:=by kernel_rfl
noncomputable def layout_looks__topEnt:Nat×Lf.Entry:=(37,⟨[.val (.ptr xY195)],[(.st xY1)],fun z=>layout_looks__top z⟩)
theorem layout_looks__top_ok:Lf.EntryOk Go.Proofs.Tryd.prog GG 37 layout_looks__topEnt.2:=
 Lf.fn_ok (c:=layout_looks__topCtx) (code:=layout_looks__topCode) (an:=layout_looks__topAnn) (slots:=[.cell 2 47]) (fn:=Go.Proofs.Tryd.f37) (by kernel_rfl) ⟨Tys_ok,Lf.FnsOk.look (.con layout_plain_ok .nil),Lf.IpsOk.look .nil,TysEq_ok,TysIm_ok,Lf.IvsOk.look .nil,Lf.FxsOk.look .nil⟩ (by kernel_rfl) (by kernel_rfl) (by kernel_rfl) (by kernel_rfl) (by kernel_rfl) (Nat.le_of_ble_eq_true rfl) (by simp [Lf.Ty.top]) (by simp [Lf.Ty.top]) fun z r h=>(layout_looks__top_eq z).trans h
noncomputable def layout_setter__styledCtx:Lf.Ctx:=⟨23,Tys,[layout_looks__topEnt,style_ApplyEnt],[],[],[],[],TysEq,[],some 4611686018427387904,TysIm,[]⟩
noncomputable def layout_setter__styledCode:Go.Code:=(Go.Proofs.Tryd.f35.body).getD .skip
def layout_setter__styledAnn:Lf.Ann:=(.seq .no (.seq .no (.seq (.draw 12) .no)))
noncomputable def layout_setter__styled (a0:xT7×xT191) (a1:Int):Option (((Int)×((Int)×(Unit)))×(xT7×xT191)):=
 bif (decide (a1<(0:Int))) then ((Go.Fn.layout_looks__top a0.2.1)).bind fun r1=>
 some (r1,a0)
 else ((Go.Fn.layout_looks__top a0.2.1)).bind fun r2=>
 ((Lf.idx a0.2.2.1 a1)).bind fun r3=>
 ((Go.Fn.style_Apply r2 r3)).bind fun r4=>
 some (r4,a0)
theorem layout_setter__styled_eq (a0:xT7×xT191) (a1:Int):Lf.fnE layout_setter__styledCtx layout_setter__styledCode layout_setter__styledAnn [.obj 74 (.st xY200) (.st xY200) [], .val (.int .i64)] [(.st xY1)] [.cell 4 47] (a0,a1)=layout_setter__styled a0 a1:=by kernel_rfl
noncomputable def layout_setter__styledEnt:Nat×Lf.Entry:=(35,⟨[.obj 74 (.st xY200) (.st xY200) [], .val (.int .i64)],[(.st xY1)],fun z=>layout_setter__styled z.1 z.2⟩)
theorem layout_setter__styled_ok:Lf.EntryOk Go.Proofs.Tryd.prog GG 35 layout_setter__styledEnt.2:=
 Lf.fn_ok (c:=layout_setter__styledCtx) (code:=layout_setter__styledCode) (an:=layout_setter__styledAnn) (slots:=[.cell 4 47]) (fn:=Go.Proofs.Tryd.f35) (by kernel_rfl) ⟨Tys_ok,Lf.FnsOk.look (.con layout_looks__top_ok (.con style_Apply_ok .nil)),Lf.IpsOk.look .nil,TysEq_ok,TysIm_ok,Lf.IvsOk.look .nil,Lf.FxsOk.look .nil⟩ (by kernel_rfl) (by kernel_rfl) (by kernel_rfl) (by kernel_rfl) (by kernel_rfl) (Nat.le_of_ble_eq_true rfl) (by simp [Lf.Ty.top]) (by simp [Lf.Ty.top]) fun z r h=>(layout_setter__styled_eq z.1 z.2).trans h
noncomputable def layout_looks__layCtx:Lf.Ctx:=⟨31,Tys,[],[],[],[],[],TysEq,[],some 4611686018427387904,TysIm,[]⟩
noncomputable def layout_looks__layCode:Go.Code:=(Go.Proofs.Tryd.f34.body).getD .skip
def layout_looks__layAnn:Lf.Ann:=(.seq .no (.seq (.perm [0,1,2,3,4,5,6,7,8,9,10,11,12,13,14,16,17,15,18,19] (.soup 17)) .no))
noncomputable def layout_looks__lay (a0:xT7×xT191) (a1:(Int)×((Int)×(Unit))) (a2:Int):Option (xT7×xT191):=
 ((Lf.chk (32:Nat) a0.2.1.2.2.1)).bind fun r1=>
 ((Lf.nth (Lf.arL (.st xY1) (32:Nat) a0.2.1.1) r1)).bind fun r2=>
 ((Lf.chk (32:Nat) a0.2.1.2.2.1)).bind fun r3=>
 ((Lf.nth (Lf.arL (.int .i64) (32:Nat) a0.2.1.2.1) r3)).bind fun r4=>
 some (a0.1,(((Lf.arS (.st xY1) (32:Nat) a0.2.1.1 r1 a1),((Lf.arS (.int .i64) (32:Nat) a0.2.1.2.1 r3 a2),((Go.IntKind.wrap .i64 (a0.2.1.2.2.1+(1:Int))),a0.2.1.2.2.2))),a0.2.2))
theorem layout_looks__lay_eq (a0:xT7×xT191) (a1:(Int)×((Int)×(Unit))) (a2:Int):Lf.fnE layout_looks__layCtx layout_looks__layCode layout_looks__layAnn [.obj 74 (.st xY200) (.st xY200) [.i, .r, .l], .val (.st xY1), .val (.int .i64)] [] [] (a0,a1,a2)=layout_looks__lay a0 a1 a2:=by kernel_rfl
noncomputable def layout_looks__layEnt:Nat×Lf.Entry:=(34,⟨[.obj 74 (.st xY200) (.st xY200) [.i, .r, .l], .val (.st xY1), .val (.int .i64)],[],fun z=>layout_looks__lay z.1 z.2.1 z.2.2⟩)
theorem layout_looks__lay_ok:Lf.EntryOk Go.Proofs.Tryd.prog GG 34 layout_looks__layEnt.2:=
 Lf.fn_ok (c:=layout_looks__layCtx) (code:=layout_looks__layCode) (an:=layout_looks__layAnn) (slots:=[]) (fn:=Go.Proofs.Tryd.f34) (by kernel_rfl) ⟨Tys_ok,Lf.FnsOk.look .nil,Lf.IpsOk.look .nil,TysEq_ok,TysIm_ok,Lf.IvsOk.look .nil,Lf.FxsOk.look .nil⟩ (by kernel_rfl) (by kernel_rfl) (by kernel_rfl) (by kernel_rfl) (by kernel_rfl) (Nat.le_of_ble_eq_true rfl) (by simp [Lf.Ty.top]) (by simp [Lf.Ty.top]) fun z r h=>(layout_looks__lay_eq z.1 z.2.1 z.2.2).trans h
noncomputable def layout_signCtx:Lf.Ctx:=⟨6,Tys,[layout_plainEnt],[],[],[],[],TysEq,[],some 4611686018427387904,TysIm,[]⟩
noncomputable def layout_signCode:Go.Code:=(Go.Proofs.Tryd.f75.body).getD .skip
def layout_signAnn:Lf.Ann:= .no
noncomputable def layout_sign (a0:List (UInt8)):Option xT20:=
 (Go.Fn.layout_plain).bind fun r1=>
 some (a0,((1:Int),(r1,((0:Int),()))))
theorem layout_sign_eq (a0:List (UInt8)):Lf.fnE layout_signCtx layout_signCode layout_signAnn [.val .str] [(.st xY36)] [.cell 2 49] (a0)=layout_sign a0:=by kernel_rfl
noncomputable def layout_signEnt:Nat×Lf.Entry:=(75,⟨[.val .str],[(.st xY36)],fun z=>layout_sign z⟩)
theorem layout_sign_ok:Lf.EntryOk Go.Proofs.Tryd.prog GG 75 layout_signEnt.2:=
 Lf.fn_ok (c:=layout_signCtx) (code:=layout_signCode) (an:=layout_signAnn) (slots:=[.cell 2 49]) (fn:=Go.Proofs.Tryd.f75) (by kernel_rfl) ⟨Tys_ok,Lf.FnsOk.look (.con layout_plain_ok .nil),Lf.IpsOk.look .nil,TysEq_ok,TysIm_ok,Lf.IvsOk.look .nil,Lf.FxsOk.look .nil⟩ (by kernel_rfl) (by kernel_rfl) (by kernel_rfl) (by kernel_rfl) (by kernel_rfl) (Nat.le_of_ble_eq_true rfl) (by simp [Lf.Ty.top]) (by simp [Lf.Ty.top]) fun z r h=>(layout_sign_eq z).trans h
noncomputable def layout_paddedCtx:Lf.Ctx:=⟨14,Tys,[layout_signEnt],[0,4,9,13],[],[(0,(.rw 49 (.st xY36))),(4,(.rw 49 (.st xY36))),(9,(.rw 49 (.st xY36))),(13,(.rw 49 (.st xY36)))],[],TysEq,[],some 4611686018427387904,TysIm,[]⟩
noncomputable def layout_paddedCode:Go.Code:=(Go.Proofs.Tryd.f60.body).getD .skip
def layout_paddedAnn:Lf.Ann:=(.seq .no (.seq (.loop ⟨[1],[],[(0,(.rw 49 (.st xY36)))],[],[]⟩ (.one (.ext 0) ⟨[],[],[(0,(.rw 49 (.st xY36)))],[],[]⟩) .no) .no))
noncomputable def layout_padded (a0:List xT20) (a1:Int):Option (List xT20):=
 (Lf.loopU (σ:=List xT20) (κ:=List xT20) (fun z1=>
   bif (decide ((((List.length z1):Nat):Int)<a1)) then ((Go.Fn.layout_sign ((32:UInt8)::([]:List (UInt8))))).bind fun r2=>
   ((Lf.app (48:Nat) z1 (r2::([]:List xT20)))).bind fun r3=>
   some (.inl r3)
   else some (.inr z1)) a0:Option (List xT20)).bind fun r4=>
 some r4
theorem layout_padded_eq (a0:List xT20) (a1:Int):Lf.fnE layout_paddedCtx layout_paddedCode layout_paddedAnn [.val (.rw 49 (.st xY36)), .val (.int .i64)] [(.rw 49 (.st xY36))] [.tmp 4] (a0,a1)=layout_padded a0 a1:=by kernel_rfl
noncomputable def layout_paddedEnt:Nat×Lf.Entry:=(60,⟨[.val (.rw 49 (.st xY36)), .val (.int .i64)],[(.rw 49 (.st xY36))],fun z=>layout_padded z.1 z.2⟩)
theorem layout_padded_ok:Lf.EntryOk Go.Proofs.Tryd.prog GG 60 layout_paddedEnt.2:=
 Lf.fn_ok (c:=layout_paddedCtx) (code:=layout_paddedCode) (an:=layout_paddedAnn) (slots:=[.tmp 4]) (fn:=Go.Proofs.Tryd.f60) (by kernel_rfl) ⟨Tys_ok,Lf.FnsOk.look (.con layout_sign_ok .nil),Lf.IpsOk.look .nil,TysEq_ok,TysIm_ok,Lf.IvsOk.look .nil,Lf.FxsOk.look .nil⟩ (by kernel_rfl) (by kernel_rfl) (by kernel_rfl) (by kernel_rfl) (by kernel_rfl) (Nat.le_of_ble_eq_true rfl) (by simp [Lf.Ty.top]) (by simp [Lf.Ty.top]) fun z r h=>(layout_padded_eq z.1 z.2).trans h
noncomputable def layout_marker__lineCtx:Lf.Ctx:=⟨32,Tys,[layout_paddedEnt,layout_signEnt],[2,3,18,31],[],[(2,(.rw 49 (.st xY36))),(3,(.rw 49 (.st xY36))),(18,(.rw 49 (.st xY36))),(31,(.rw 49 (.st xY36)))],[],TysEq,[],some 4611686018427387904,TysIm,[]⟩
noncomputable def layout_marker__lineCode:Go.Code:=(Go.Proofs.Tryd.f59.body).getD .skip
def layout_marker__lineAnn:Lf.Ann:=(.seq .no (.seq .no (.seq (.seq .no (.loop ⟨[14],[(0, .ref 0 [.i, .l] 0)],[(15,(.int .i64)),(3,(.rw 49 (.st xY36)))],[(0,74,(.st xY200))],[]⟩ (.one (.ext 0) ⟨[],[(0, .ref 0 [.i, .l] 0)],[(3,(.rw 49 (.st xY36)))],[(0,74,(.st xY200))],[]⟩) .no)) .no)))
noncomputable def layout_marker__line (a0:xT7×xT191):Option ((List xT20)×(xT7×xT191)):=
 ((Go.Fn.layout_padded ([]:List xT20) a0.1.2.1)).bind fun r1=>
 (Lf.loopU (σ:=(Int)×((List xT20)×(xT7×xT191))) (κ:=(List xT20)×(xT7×xT191)) (fun z2=>
   bif (decide (z2.1<(((List.length a0.1.2.2.1):Nat):Int))) then ((Lf.sub z2.2.2.1.2.2.1 z2.1 (Go.IntKind.wrap .i64 (z2.1+(1:Int))))).bind fun r3=>
   ((Go.Fn.layout_sign r3)).bind fun r4=>
   ((Lf.app (48:Nat) z2.2.1 (r4::([]:List xT20)))).bind fun r5=>
   some (.inl ((Go.IntKind.wrap .i64 (z2.1+(1:Int))),(r5,z2.2.2)))
   else some (.inr z2.2)) ((0:Int),(r1,a0)):Option ((List xT20)×(xT7×xT191))).bind fun r6=>
 some r6
theorem layout_marker__line_eq (a0:xT7×xT191):Lf.fnE layout_marker__lineCtx layout_marker__lineCode layout_marker__lineAnn [.obj 74 (.st xY200) (.st xY200) [.i, .l]] [(.rw 49 (.st xY36))] [.tmp 2] (a0)=layout_marker__line a0:=by kernel_rfl
noncomputable def layout_marker__lineEnt:Nat×Lf.Entry:=(59,⟨[.obj 74 (.st xY200) (.st xY200) [.i, .l]],[(.rw 49 (.st xY36))],fun z=>layout_marker__line z⟩)
theorem layout_marker__line_ok:Lf.EntryOk Go.Proofs.Tryd.prog GG 59 layout_marker__lineEnt.2:=
 Lf.fn_ok (c:=layout_marker__lineCtx) (code:=layout_marker__lineCode) (an:=layout_marker__lineAnn) (slots:=[.tmp 2]) (fn:=Go.Proofs.Tryd.f59) (by kernel_rfl) ⟨Tys_ok,Lf.FnsOk.look (.con layout_padded_ok (.con layout_sign_ok .nil)),Lf.IpsOk.look .nil,TysEq_ok,TysIm_ok,Lf.IvsOk.look .nil,Lf.FxsOk.look .nil⟩ (by kernel_rfl) (by kernel_rfl) (by kernel_rfl) (by kernel_rfl) (by kernel_rfl) (Nat.le_of_ble_eq_true rfl) (by simp [Lf.Ty.top]) (by simp [Lf.Ty.top]) fun z r h=>(layout_marker__line_eq z).trans h
noncomputable def layout_setter__dropCtx:Lf.Ctx:=⟨16,Tys,[layout_marker__waitingEnt,layout_setter__tellEnt,layout_marker__lineEnt],[],[],[],[],TysEq,[],some 4611686018427387904,TysIm,[]⟩
noncomputable def layout_setter__dropCode:Go.Code:=(Go.Proofs.Tryd.f39.body).getD .skip
def layout_setter__dropAnn:Lf.Ann:=(.seq (.join (.one .nrm ⟨[],[(0, .ref 0 [] 0)],[],[(0,74,(.st xY200))],[]⟩) .no) .no)
noncomputable def layout_setter__drop (a0:xT7×xT191):Option (xT7×xT191):=
 (((Go.Fn.layout_marker__waiting a0.1)).bind fun r1=>
  bif r1 then ((Go.Fn.layout_marker__line a0)).bind fun r2=>
  ((Go.Fn.layout_setter__tell r2.2 r2.1)).bind fun r3=>
  some r3
  else some a0).bind fun r4=>
 some (((0:Int),((0:Int),(([]:List (UInt8)),()))),r4.2)
theorem layout_setter__drop_eq (a0:xT7×xT191):Lf.fnE layout_setter__dropCtx layout_setter__dropCode layout_setter__dropAnn [.obj 74 (.st xY200) (.st xY200) []] [] [] (a0)=layout_setter__drop a0:=by kernel_rfl
noncomputable def layout_setter__dropEnt:Nat×Lf.Entry:=(39,⟨[.obj 74 (.st xY200) (.st xY200) []],[],fun z=>layout_setter__drop z⟩)
theorem layout_setter__drop_ok:Lf.EntryOk Go.Proofs.Tryd.prog GG 39 layout_setter__dropEnt.2:=
 Lf.fn_ok (c:=layout_setter__dropCtx) (code:=layout_setter__dropCode) (an:=layout_setter__dropAnn) (slots:=[]) (fn:=Go.Proofs.Tryd.f39) (by kernel_rfl) ⟨Tys_ok,Lf.FnsOk.look (.con layout_marker__waiting_ok (.con layout_setter__tell_ok (.con layout_marker__line_ok .nil))),Lf.IpsOk.look .nil,TysEq_ok,TysIm_ok,Lf.IvsOk.look .nil,Lf.FxsOk.look .nil⟩ (by kernel_rfl) (by kernel_rfl) (by kernel_rfl) (by kernel_rfl) (by kernel_rfl) (Nat.le_of_ble_eq_true rfl) (by simp [Lf.Ty.top]) (by simp [Lf.Ty.top]) fun z r h=>(layout_setter__drop_eq z).trans h
noncomputable def layout_setter__doneCtx:Lf.Ctx:=⟨93,Tys,[layout_marker__waitingEnt,layout_setter__tellEnt,layout_setter__dropEnt,table_FillEnt,layout_marker__lineEnt,layout_paddedEnt],[5,31,80],[],[(5,(.rw 49 (.st xY36))),(31,xY44),(80,(.rw 49 (.st xY36))),(4000085,(.dead 80 (.rw 49 (.st xY36)))),(6000037, .bool)],[],TysEq,[],some 4611686018427387904,TysIm,[]⟩
noncomputable def layout_setter__doneCode:Go.Code:=(Go.Proofs.Tryd.f38.body).getD .skip
def layout_setter__doneAnn:Lf.Ann:=(.seq .no (.seq (.seq .no (.cnd (.seq (.opn 999999 .no) .no) .no)) (.seq (.soup 17) (.seq (.join (.one .nrm ⟨[2],[(0, .ref 0 [] 0)],[],[(0,74,(.st xY200))],[]⟩) .no) (.seq .no (.loop ⟨[2,63],[(0, .ref 0 [] 0)],[(64,(.int .i64))],[(0,74,(.st xY200))],[]⟩ (.one (.ext 0) ⟨[],[(0, .ref 0 [] 0)],[],[(0,74,(.st xY200))],[]⟩) (.seq .no (.seq .no (.seq (.seq .no (.seq .no (.seq (.join (.one .nrm ⟨[2,63,64,4],[(0, .ref 0 [] 0)],[(5,(.rw 49 (.st xY36)))],[(0,74,(.st xY200))],[]⟩) .no) (.souph 11 85 5)))) .no)))))))))
noncomputable def layout_setter__done (a0:xT7×xT191):Option (xT7×xT191):=
 bif (decide ((0:Int)<(((Lf.mlLen a0.2.2.2.2.2.2.1):Nat):Int))) then none
 else ((Go.Fn.table_Fill a0.2.2.2.2.2.2.2.1 (Go.IntKind.wrap .i64 (a0.2.2.2.1 - a0.2.2.2.2.1)))).bind fun r1=>
 (bif (decide (((((List.length r1.1):Nat):Int):Int)=(0:Int))) then ((Go.Fn.layout_setter__drop (a0.1,((Lf.u2 a0.2.1 ((Go.IntKind.wrap .i64 (a0.2.1.2.2.1 - (1:Int))),a0.2.1.2.2.2)),a0.2.2)))).bind fun r2=>
  some r2
  else some (a0.1,((Lf.u2 a0.2.1 ((Go.IntKind.wrap .i64 (a0.2.1.2.2.1 - (1:Int))),a0.2.1.2.2.2)),a0.2.2))).bind fun r3=>
 (Lf.loopU (σ:=(Int)×(xT7×xT191)) (κ:=xT7×xT191) (fun z4=>
   bif (decide (z4.1<(((List.length r1.1):Nat):Int))) then (((Go.Fn.layout_marker__waiting z4.2.1)).bind fun r5=>
    bif r5 then ((Go.Fn.layout_marker__line z4.2)).bind fun r6=>
    some (r6.1,(((0:Int),((0:Int),(([]:List (UInt8)),()))),r6.2.2))
    else some (([]:List xT20),z4.2)).bind fun r7=>
   ((Go.Fn.layout_padded r7.1 r7.2.2.2.2.2.1)).bind fun r8=>
   ((Lf.idx r1.1 z4.1)).bind fun r9=>
   ((Lf.app (48:Nat) r8 r9)).bind fun r10=>
   ((Go.Fn.layout_setter__tell r7.2 r10)).bind fun r11=>
   some (.inl ((Go.IntKind.wrap .i64 (z4.1+(1:Int))),r11))
   else some (.inr z4.2)) ((0:Int),r3):Option (xT7×xT191)).bind fun r12=>
 some r12
theorem layout_setter__done_eq (a0:xT7×xT191):Lf.fnE layout_setter__doneCtx layout_setter__doneCode layout_setter__doneAnn [.obj 74 (.st xY200) (.st xY200) []] [] [] (a0)=layout_setter__done a0:=by kernel_rfl
noncomputable def layout_setter__doneEnt:Nat×Lf.Entry:=(38,⟨[.obj 74 (.st xY200) (.st xY200) []],[],fun z=>layout_setter__done z⟩)
theorem layout_setter__done_ok:Lf.EntryOk Go.Proofs.Tryd.prog GG 38 layout_setter__doneEnt.2:=
 Lf.fn_ok (c:=layout_setter__doneCtx) (code:=layout_setter__doneCode) (an:=layout_setter__doneAnn) (slots:=[]) (fn:=Go.Proofs.Tryd.f38) (by kernel_rfl) ⟨Tys_ok,Lf.FnsOk.look (.con layout_marker__waiting_ok (.con layout_setter__tell_ok (.con layout_setter__drop_ok (.con table_Fill_ok (.con layout_marker__line_ok (.con layout_padded_ok .nil)))))),Lf.IpsOk.look .nil,TysEq_ok,TysIm_ok,Lf.IvsOk.look .nil,Lf.FxsOk.look .nil⟩ (by kernel_rfl) (by kernel_rfl) (by kernel_rfl) (by kernel_rfl) (by kernel_rfl) (Nat.le_of_ble_eq_true rfl) (by simp [Lf.Ty.top]) (by simp [Lf.Ty.top]) fun z r h=>(layout_setter__done_eq z).trans h
noncomputable def layout_setter__itemCtx:Lf.Ctx:=⟨79,Tys,[layout_setter__dropEnt,strconv_ItoaEnt],[],[],[],[],TysEq,[],some 4611686018427387904,TysIm,[]⟩
noncomputable def layout_setter__itemCode:Go.Code:=(Go.Proofs.Tryd.f40.body).getD .skip
def layout_setter__itemAnn:Lf.Ann:=(.seq .no (.seq (.draw 12) (.seq .no (.seq .no (.seq .no (.seq (.draw 17) (.seq .no (.draw 17))))))))
noncomputable def layout_setter__item (a0:xT7×xT191):Option (xT7×xT191):=
 ((Go.Fn.layout_setter__drop a0)).bind fun r1=>
 ((Lf.chk (List.length r1.2.2.2.2.2.1) (Go.IntKind.wrap .i64 ((((List.length r1.2.2.2.2.2.1):Nat):Int) - (1:Int))))).bind fun r2=>
 ((Lf.nth r1.2.2.2.2.2.1 r2)).bind fun r3=>
 ((Lf.nth r1.2.2.2.2.2.1 r2)).bind fun r4=>
 ((Lf.nth (List.set r1.2.2.2.2.2.1 r2 (r4.1,((Go.IntKind.wrap .i64 (r3.2.1+(1:Int))),r4.2.2))) r2)).bind fun r5=>
 bif (decide ((r5.2.2.1:Int)≠(0:Int))) then ((Lf.nth (List.set r1.2.2.2.2.2.1 r2 (r4.1,((Go.IntKind.wrap .i64 (r3.2.1+(1:Int))),r4.2.2))) r2)).bind fun r6=>
 ((Go.Fn.strconv_Itoa r6.2.1)).bind fun r7=>
 ((Lf.cat r7 ((46:UInt8)::([]:List (UInt8))))).bind fun r8=>
 ((Lf.nth (List.set r1.2.2.2.2.2.1 r2 (r4.1,((Go.IntKind.wrap .i64 (r3.2.1+(1:Int))),r4.2.2))) r2)).bind fun r9=>
 ((Lf.sub r8 (Max.max (0:Int) (Go.IntKind.wrap .i64 ((((List.length r8):Nat):Int) - (Min.min (Go.IntKind.wrap .i64 ((Go.IntKind.wrap .i64 (r9.1+(((List.length r8):Nat):Int)))+(1:Int))) (Go.IntKind.wrap .i64 (r1.2.2.2.1 - (4:Int))))))) (((List.length r8):Nat):Int))).bind fun r10=>
 ((Lf.nth (List.set r1.2.2.2.2.2.1 r2 (r4.1,((Go.IntKind.wrap .i64 (r3.2.1+(1:Int))),r4.2.2))) r2)).bind fun r11=>
 some (((1:Int),((Min.min r11.1 (Go.IntKind.wrap .i64 ((Min.min (Go.IntKind.wrap .i64 ((Go.IntKind.wrap .i64 (r9.1+(((List.length r8):Nat):Int)))+(1:Int))) (Go.IntKind.wrap .i64 (r1.2.2.2.1 - (4:Int)))) - (((List.length r10):Nat):Int)))),(r10,()))),(Lf.u3 r1.2 ((Min.min (Go.IntKind.wrap .i64 ((Go.IntKind.wrap .i64 (r9.1+(((List.length r8):Nat):Int)))+(1:Int))) (Go.IntKind.wrap .i64 (r1.2.2.2.1 - (4:Int)))),((List.set r1.2.2.2.2.2.1 r2 (r4.1,((Go.IntKind.wrap .i64 (r3.2.1+(1:Int))),r4.2.2))),r1.2.2.2.2.2.2))))
 else ((Lf.nth (List.set r1.2.2.2.2.2.1 r2 (r4.1,((Go.IntKind.wrap .i64 (r3.2.1+(1:Int))),r4.2.2))) r2)).bind fun r12=>
 ((Lf.sub ((42:UInt8)::([]:List (UInt8))) (Max.max (0:Int) (Go.IntKind.wrap .i64 ((((List.length ((42:UInt8)::([]:List (UInt8)))):Nat):Int) - (Min.min (Go.IntKind.wrap .i64 ((Go.IntKind.wrap .i64 (r12.1+(((List.length ((42:UInt8)::([]:List (UInt8)))):Nat):Int)))+(1:Int))) (Go.IntKind.wrap .i64 (r1.2.2.2.1 - (4:Int))))))) (((List.length ((42:UInt8)::([]:List (UInt8)))):Nat):Int))).bind fun r13=>
 ((Lf.nth (List.set r1.2.2.2.2.2.1 r2 (r4.1,((Go.IntKind.wrap .i64 (r3.2.1+(1:Int))),r4.2.2))) r2)).bind fun r14=>
 some (((1:Int),((Min.min r14.1 (Go.IntKind.wrap .i64 ((Min.min (Go.IntKind.wrap .i64 ((Go.IntKind.wrap .i64 (r12.1+(((List.length ((42:UInt8)::([]:List (UInt8)))):Nat):Int)))+(1:Int))) (Go.IntKind.wrap .i64 (r1.2.2.2.1 - (4:Int)))) - (((List.length r13):Nat):Int)))),(r13,()))),(Lf.u3 r1.2 ((Min.min (Go.IntKind.wrap .i64 ((Go.IntKind.wrap .i64 (r12.1+(((List.length ((42:UInt8)::([]:List (UInt8)))):Nat):Int)))+(1:Int))) (Go.IntKind.wrap .i64 (r1.2.2.2.1 - (4:Int)))),((List.set r1.2.2.2.2.2.1 r2 (r4.1,((Go.IntKind.wrap .i64 (r3.2.1+(1:Int))),r4.2.2))),r1.2.2.2.2.2.2))))
theorem layout_setter__item_eq (a0:xT7×xT191):Lf.fnE layout_setter__itemCtx layout_setter__itemCode layout_setter__itemAnn [.obj 74 (.st xY200) (.st xY200) []] [] [] (a0)=layout_setter__item a0:=by kernel_rfl
noncomputable def layout_setter__itemEnt:Nat×Lf.Entry:=(40,⟨[.obj 74 (.st xY200) (.st xY200) []],[],fun z=>layout_setter__item z⟩)
theorem layout_setter__item_ok:Lf.EntryOk Go.Proofs.Tryd.prog GG 40 layout_setter__itemEnt.2:=
 Lf.fn_ok (c:=layout_setter__itemCtx) (code:=layout_setter__itemCode) (an:=layout_setter__itemAnn) (slots:=[]) (fn:=Go.Proofs.Tryd.f40) (by kernel_rfl) ⟨Tys_ok,Lf.FnsOk.look (.con layout_setter__drop_ok (.con strconv_Itoa_ok .nil)),Lf.IpsOk.look .nil,TysEq_ok,TysIm_ok,Lf.IvsOk.look .nil,Lf.FxsOk.look .nil⟩ (by kernel_rfl) (by kernel_rfl) (by kernel_rfl) (by kernel_rfl) (by kernel_rfl) (Nat.le_of_ble_eq_true rfl) (by simp [Lf.Ty.top]) (by simp [Lf.Ty.top]) fun z r h=>(layout_setter__item_eq z).trans h
noncomputable def layout_setter__rowCtx:Lf.Ctx:=⟨43,Tys,[layout_setter__tellEnt,table_RowEnt],[],[],[(6000009, .bool)],[],TysEq,[],some 4611686018427387904,TysIm,[]⟩
noncomputable def layout_setter__rowCode:Go.Code:=(Go.Proofs.Tryd.f42.body).getD .skip
def layout_setter__rowAnn:Lf.Ann:=(.seq (.opn 999999 .no) .no)
noncomputable def layout_setter__row (a0:xT7×xT191):Option (xT7×xT191):=
 none
theorem layout_setter__row_eq (a0:xT7×xT191):Lf.fnE layout_setter__rowCtx layout_setter__rowCode layout_setter__rowAnn [.obj 74 (.st xY200) (.st xY200) []] [] [] (a0)=layout_setter__row a0:=by kernel_rfl
noncomputable def layout_setter__rowEnt:Nat×Lf.Entry:=(42,⟨[.obj 74 (.st xY200) (.st xY200) []],[],fun z=>layout_setter__row z⟩)
theorem layout_setter__row_ok:Lf.EntryOk Go.Proofs.Tryd.prog GG 42 layout_setter__rowEnt.2:=
 Lf.fn_ok (c:=layout_setter__rowCtx) (code:=layout_setter__rowCode) (an:=layout_setter__rowAnn) (slots:=[]) (fn:=Go.Proofs.Tryd.f42) (by kernel_rfl) ⟨Tys_ok,Lf.FnsOk.look (.con layout_setter__tell_ok (.con table_Row_ok .nil)),Lf.IpsOk.look .nil,TysEq_ok,TysIm_ok,Lf.IvsOk.look .nil,Lf.FxsOk.look .nil⟩ (by kernel_rfl) (by kernel_rfl) (by kernel_rfl) (by kernel_rfl) (by kernel_rfl) (Nat.le_of_ble_eq_true rfl) (by simp [Lf.Ty.top]) (by simp [Lf.Ty.top]) fun z r h=>(layout_setter__row_eq z).trans h
noncomputable def layout_setter__endCtx:Lf.Ctx:=⟨42,Tys,[layout_setter__dropEnt,layout_setter__rowEnt],[39],[],[],[],TysEq,[],some 4611686018427387904,TysIm,[]⟩
noncomputable def layout_setter__endCode:Go.Code:=(Go.Proofs.Tryd.f43.body).getD .skip
def layout_setter__endAnn:Lf.Ann:= .no
noncomputable def layout_setter__end (a0:xT7×xT191):Option (xT7×xT191):=
 bif (decide ((0:Int)<(((Lf.mlLen a0.2.2.2.2.2.2.1):Nat):Int))) then ((Go.Fn.layout_setter__row a0)).bind fun r1=>
 some (Lf.u6 r1 ((none:Option ((List xT53)×xT53)),r1.2.2.2.2.2.2.2))
 else ((Go.Fn.layout_setter__drop a0)).bind fun r2=>
 ((Lf.chk (List.length r2.2.2.2.2.2.1) (Go.IntKind.wrap .i64 ((((List.length r2.2.2.2.2.2.1):Nat):Int) - (1:Int))))).bind fun r3=>
 ((Lf.nth r2.2.2.2.2.2.1 r3)).bind fun r4=>
 ((Lf.sub r2.2.2.2.2.2.1 (0:Int) (Go.IntKind.wrap .i64 ((((List.length r2.2.2.2.2.2.1):Nat):Int) - (1:Int))))).bind fun r5=>
 some (Lf.u4 r2 (r4.1,(r5,r2.2.2.2.2.2.2)))
theorem layout_setter__end_eq (a0:xT7×xT191):Lf.fnE layout_setter__endCtx layout_setter__endCode layout_setter__endAnn [.obj 74 (.st xY200) (.st xY200) []] [] [] (a0)=layout_setter__end a0:=by kernel_rfl
noncomputable def layout_setter__endEnt:Nat×Lf.Entry:=(43,⟨[.obj 74 (.st xY200) (.st xY200) []],[],fun z=>layout_setter__end z⟩)
theorem layout_setter__end_ok:Lf.EntryOk Go.Proofs.Tryd.prog GG 43 layout_setter__endEnt.2:=
 Lf.fn_ok (c:=layout_setter__endCtx) (code:=layout_setter__endCode) (an:=layout_setter__endAnn) (slots:=[]) (fn:=Go.Proofs.Tryd.f43) (by kernel_rfl) ⟨Tys_ok,Lf.FnsOk.look (.con layout_setter__drop_ok (.con layout_setter__row_ok .nil)),Lf.IpsOk.look .nil,TysEq_ok,TysIm_ok,Lf.IvsOk.look .nil,Lf.FxsOk.look .nil⟩ (by kernel_rfl) (by kernel_rfl) (by kernel_rfl) (by kernel_rfl) (by kernel_rfl) (Nat.le_of_ble_eq_true rfl) (by simp [Lf.Ty.top]) (by simp [Lf.Ty.top]) fun z r h=>(layout_setter__end_eq z).trans h
noncomputable def layout_setter__doCtx:Lf.Ctx:=⟨252,Tys,[layout_marker__waitingEnt,layout_setter__tellEnt,layout_looks__layEnt,layout_setter__styledEnt,text_CellsEnt,layout_looks__topEnt,layout_setter__doneEnt,layout_setter__dropEnt,layout_setter__itemEnt,table_ColumnsEnt,layout_setter__rowEnt,layout_setter__endEnt],[59,84,104,139,204],[],[(59,(.rw 49 (.st xY36))),(84,(.rw 49 (.st xY36))),(104,(.rw 49 (.st xY36))),(139,(.rw 99 (.st xY1))),(204,(.rw 120 xY15))],[],TysEq,[],some 4611686018427387904,TysIm,[]⟩
noncomputable def layout_setter__doCode:Go.Code:=(Go.Proofs.Tryd.f19.body).getD .skip
def layout_setter__doAnn:Lf.Ann:=(.seq .no (.seq .no (.seq .no (.cnd (.seq (.join (.one .nrm ⟨[],[(0, .ref 0 [] 0),(4, .ref 4 [] 0)],[],[(0,74,(.st xY200)),(4,40,(.st xY19))],[]⟩) (.seq (.join (.one .nrm ⟨[],[(0, .ref 0 [] 0),(4, .ref 4 [] 0)],[(31, .bool)],[(0,74,(.st xY200)),(4,40,(.st xY19))],[]⟩) .no) .no)) (.seq .no (.soup 4))) (.seq .no (.cnd (.seq .no (.loop ⟨[49,50],[(0, .ref 0 [] 0)],[(51,(.int .i64))],[(0,74,(.st xY200))],[]⟩ (.one (.ext 1) ⟨[],[(0, .ref 0 [] 0)],[],[(0,74,(.st xY200))],[]⟩) (.seq .no (.seq .no (.seq (.seq .no (.soup 19)) .no))))) (.seq .no (.cnd (.soup 15) (.seq .no (.cnd (.soup 15) (.seq .no (.cnd (.soup 4) (.seq (.join (.one .nrm ⟨[12],[(0, .ref 0 [] 0),(4, .ref 4 [] 0)],[(128, .bool)],[(0,74,(.st xY200)),(4,40,(.st xY19))],[]⟩) .no) (.cnd (.seq .no (.seq (.join (.one .nrm ⟨[],[(0, .ref 0 [] 0),(4, .ref 4 [] 0)],[(8,(.int .i64))],[(0,74,(.st xY200)),(4,40,(.st xY19))],[]⟩) .no) (.seq (.soup 11) (.seq .no (.draw 7))))) (.seq .no (.cnd (.seq .no (.seq (.draw 12) .no)) (.seq .no (.cnd .no (.seq .no (.cnd (.seq .no (.soup 13)) (.seq .no (.cnd .no (.seq .no (.cnd (.seq (.soup 10) .no) .no))))))))))))))))))))))))
noncomputable def layout_setter__do (a0:xT7×xT191) (a1:(Int)×((Int)×((List (UInt8))×((List (Int))×(Unit))))) (a2:Int):Option (xT7×xT191):=
 bif (decide ((a1.1:Int)=(8:Int))) then ((bif (decide ((a2:Int)=(9:Int))) then ((Go.Fn.layout_marker__waiting a0.1)).bind fun r1=>
   bif (!r1) then some ((decide (((((Lf.mlLen a0.2.2.2.2.2.2.1):Nat):Int):Int)=(0:Int))),(a0,a1))
   else some (false,(a0,a1))
   else some (false,(a0,a1))).bind fun r2=>
  bif r2.1 then ((Go.Fn.layout_setter__tell r2.2.1 ([]:List xT20))).bind fun r3=>
  some (r3,r2.2.2)
  else some r2.2).bind fun r4=>
 ((Go.Fn.layout_setter__styled (Lf.u7 r4.1 (([]:List xT20),r4.1.2.2.2.2.2.2.2.2)) r4.2.2.1)).bind fun r5=>
 ((Go.Fn.layout_looks__lay r5.2 r5.1 (0:Int))).bind fun r6=>
 some r6
 else bif (decide ((a1.1:Int)=(1:Int))) then ((Go.Fn.text_Cells a1.2.2.1)).bind fun r7=>
 (Lf.loopU (σ:=(Int)×(xT7×xT191)) (κ:=xT7×xT191) (fun z8=>
   bif (decide (z8.1<(((List.length r7):Nat):Int))) then ((Lf.idx r7 z8.1)).bind fun r9=>
   ((Go.Fn.layout_looks__top z8.2.2.1)).bind fun r10=>
   ((Lf.app (48:Nat) z8.2.2.2.2.2.2.2.2.1 ((r9.1,(r9.2.2.1,(r10,(z8.2.2.2.2.2.2.2.2.2.1,()))))::([]:List xT20)))).bind fun r11=>
   some (.inl ((Go.IntKind.wrap .i64 (z8.1+(1:Int))),(Lf.u7 z8.2 (r11,z8.2.2.2.2.2.2.2.2.2))))
   else some (.inr z8.2)) ((0:Int),a0):Option (xT7×xT191)).bind fun r12=>
 some r12
 else bif (decide ((a1.1:Int)=(6:Int))) then ((Go.Fn.layout_looks__top a0.2.1)).bind fun r13=>
 ((Lf.app (48:Nat) a0.2.2.2.2.2.2.2.1 ((((9:UInt8)::([]:List (UInt8))),((1:Int),(r13,(a0.2.2.2.2.2.2.2.2.1,()))))::([]:List xT20)))).bind fun r14=>
 some (Lf.u7 a0 (r14,a0.2.2.2.2.2.2.2.2))
 else bif (decide ((a1.1:Int)=(7:Int))) then ((Go.Fn.layout_looks__top a0.2.1)).bind fun r15=>
 ((Lf.app (48:Nat) a0.2.2.2.2.2.2.2.1 ((((10:UInt8)::([]:List (UInt8))),((1:Int),(r15,(a0.2.2.2.2.2.2.2.2.1,()))))::([]:List xT20)))).bind fun r16=>
 some (Lf.u7 a0 (r16,a0.2.2.2.2.2.2.2.2))
 else bif (decide ((a1.1:Int)=(2:Int))) then ((Go.Fn.layout_setter__styled a0 a1.2.1)).bind fun r17=>
 ((Go.Fn.layout_looks__lay r17.2 r17.1 (0:Int))).bind fun r18=>
 some r18
 else (bif (decide ((a1.1:Int)=(3:Int))) then some ((decide ((a1.1:Int)=(3:Int))),(a0,a1))
  else some ((decide ((a1.1:Int)=(4:Int))),(a0,a1))).bind fun r19=>
 bif r19.1 then (bif (decide ((r19.2.2.1:Int)=(4:Int))) then some ((1:Int),r19.2)
  else some ((0:Int),r19.2)).bind fun r20=>
 ((Lf.app (16:Nat) r20.2.1.2.2.2.2.2.2.2.2.2.1.2.2.1 ((r20.1,(r20.2.2.2.1,()))::([]:List ((Int)×((Int)×(Unit))))))).bind fun r21=>
 ((Go.Fn.layout_looks__top r20.2.1.2.1)).bind fun r22=>
 ((Go.Fn.layout_looks__lay (Lf.u8 r20.2.1 ((((List.length r21):Nat):Int),((Lf.u2 r20.2.1.2.2.2.2.2.2.2.2.2.1 (r21,r20.2.1.2.2.2.2.2.2.2.2.2.1.2.2.2)),r20.2.1.2.2.2.2.2.2.2.2.2.2))) r22 (1:Int))).bind fun r23=>
 some r23
 else bif (decide ((a1.1:Int)=(5:Int))) then ((Lf.chk (32:Nat) (Go.IntKind.wrap .i64 (r19.2.1.2.1.2.2.1 - (1:Int))))).bind fun r24=>
 ((Lf.nth (Lf.arL (.int .i64) (32:Nat) r19.2.1.2.1.2.1) r24)).bind fun r25=>
 bif (decide ((r25:Int)=(1:Int))) then some (r19.2.1.1,((Lf.u2 r19.2.1.2.1 ((Go.IntKind.wrap .i64 (r19.2.1.2.1.2.2.1 - (1:Int))),r19.2.1.2.1.2.2.2)),(Lf.u6 r19.2.1.2.2 ((0:Int),r19.2.1.2.2.2.2.2.2.2.2.2))))
 else some (r19.2.1.1,((Lf.u2 r19.2.1.2.1 ((Go.IntKind.wrap .i64 (r19.2.1.2.1.2.2.1 - (1:Int))),r19.2.1.2.1.2.2.2)),r19.2.1.2.2))
 else bif (decide ((a1.1:Int)=(9:Int))) then ((Go.Fn.layout_setter__done r19.2.1)).bind fun r26=>
 some r26
 else bif (decide ((a1.1:Int)=(10:Int))) then ((Go.Fn.layout_setter__drop r19.2.1)).bind fun r27=>
 ((Lf.app (24:Nat) r27.2.2.2.2.2.1 ((r27.2.2.2.2.1,((0:Int),(r19.2.2.2.1,())))::([]:List ((Int)×((Int)×((Int)×(Unit)))))))).bind fun r28=>
 some (Lf.u5 r27 (r28,r27.2.2.2.2.2.2))
 else bif (decide ((a1.1:Int)=(11:Int))) then ((Go.Fn.layout_setter__item r19.2.1)).bind fun r29=>
 some r29
 else bif (decide ((a1.1:Int)=(12:Int))) then ((Go.Fn.table_Columns r19.2.2.2.2.2.1 r19.2.1.2.2.2.1)).bind fun r30=>
 none
 else bif (decide ((a1.1:Int)=(13:Int))) then ((Go.Fn.layout_setter__row r19.2.1)).bind fun r31=>
 ((Lf.mlAt r31.2.2.2.2.2.2.1 (0:Int))).bind fun r32=>
 ((Lf.mlE r31.2.2.2.2.2.2.1 r32)).bind fun r33=>
 some (Lf.u6 r31 ((Lf.mlSet r31.2.2.2.2.2.2.1 (Lf.u2 r33 ((1:Int),r33.2.2.2))),r31.2.2.2.2.2.2.2))
 else bif (decide ((a1.1:Int)=(14:Int))) then ((Go.Fn.layout_setter__end r19.2.1)).bind fun r34=>
 some r34
 else some r19.2.1
theorem layout_setter__do_eq (a0:xT7×xT191) (a1:(Int)×((Int)×((List (UInt8))×((List (Int))×(Unit))))) (a2:Int):Lf.fnE layout_setter__doCtx layout_setter__doCode layout_setter__doAnn [.obj 74 (.st xY200) (.st xY200) [], .val (.st xY19), .val (.int .i64)] [] [] (a0,a1,a2)=layout_setter__do a0 a1 a2:=by kernel_rfl
noncomputable def layout_setter__doEnt:Nat×Lf.Entry:=(19,⟨[.obj 74 (.st xY200) (.st xY200) [], .val (.st xY19), .val (.int .i64)],[],fun z=>layout_setter__do z.1 z.2.1 z.2.2⟩)
theorem layout_setter__do_ok:Lf.EntryOk Go.Proofs.Tryd.prog GG 19 layout_setter__doEnt.2:=
 Lf.fn_ok (c:=layout_setter__doCtx) (code:=layout_setter__doCode) (an:=layout_setter__doAnn) (slots:=[]) (fn:=Go.Proofs.Tryd.f19) (by kernel_rfl) ⟨Tys_ok,Lf.FnsOk.look (.con layout_marker__waiting_ok (.con layout_setter__tell_ok (.con layout_looks__lay_ok (.con layout_setter__styled_ok (.con text_Cells_ok (.con layout_looks__top_ok (.con layout_setter__done_ok (.con layout_setter__drop_ok (.con layout_setter__item_ok (.con table_Columns_ok (.con layout_setter__row_ok (.con layout_setter__end_ok .nil)))))))))))),Lf.IpsOk.look .nil,TysEq_ok,TysIm_ok,Lf.IvsOk.look .nil,Lf.FxsOk.look .nil⟩ (by kernel_rfl) (by kernel_rfl) (by kernel_rfl) (by kernel_rfl) (by kernel_rfl) (Nat.le_of_ble_eq_true rfl) (by simp [Lf.Ty.top]) (by simp [Lf.Ty.top]) fun z r h=>(layout_setter__do_eq z.1 z.2.1 z.2.2).trans h
end Go.Fn
open Go Go.Lf
set_option maxRecDepth 10000
namespace Go.Fn
noncomputable def layout_LayoutCtx:Lf.Ctx:=⟨107,Tys,[layout_RectsEnt,style_CheckEnt,ir_CheckEnt,style_WholeEnt,layout_setter__doEnt],[29,38,73],[],[(54,xY201),(73,(.rw 76 xY15))],[],TysEq,[],some 4611686018427387904,TysIm,[]⟩
noncomputable def layout_LayoutCode:Go.Code:=(Go.Proofs.Tryd.f7.body).getD .skip
def layout_LayoutAnn:Lf.Ann:=(.seq .no (.seq (.seq (.join (.one .nrm ⟨[0,1,3,2],[(8, .ref 8 [] 0)],[(27, .bool)],[(8,30,(.st xY94))],[]⟩) .no) .no) (.seq .no (.seq .no (.seq .no (.seq .no (.seq (.seq .no (.loop ⟨[0,56,1,57],[(14, .ref 55 [] 0),(8, .ref 8 [] 0)],[(58,(.int .i64))],[(55,74,xY201),(8,30,(.st xY94))],[]⟩ (.one (.ext 0) ⟨[1],[(14, .ref 55 [] 0),(8, .ref 8 [] 0)],[],[(55,74,xY201),(8,30,(.st xY94))],[]⟩) (.seq .no (.seq .no (.seq (.seq .no (.seq .no (.soup 7))) .no))))) (.seq .no (.seq (.seq .no (.loop ⟨[80,81],[(14, .ref 55 [] 0),(8, .ref 8 [] 0)],[(82,(.int .i64)),(19,(.int .i64))],[(55,74,xY201),(8,30,(.st xY94))],[]⟩ (.one (.ext 2) ⟨[],[(8, .ref 8 [] 0),(14, .ref 55 [] 0)],[],[(8,30,(.st xY94)),(55,74,xY201)],[]⟩) .no)) .no)))))))))
noncomputable def layout_Layout (a0:List xT27) (a1:List ((Int)×((Int)×xT3))) (a2:Int) (a3:Int):Option (xT67×(Int)):=
 (bif (!(decide (a3<(10:Int)))) then some ((decide ((200:Int)<a3)),(([]:List (List xT20)),(([]:List xT8),(([]:List ((Int)×((Int)×(Unit)))),(false,())))))
  else some (true,(([]:List (List xT20)),(([]:List xT8),(([]:List ((Int)×((Int)×(Unit)))),(false,())))))).bind fun r1=>
 bif r1.1 then some ((([]:List (List xT20)),(([]:List xT8),(([]:List ((Int)×((Int)×(Unit)))),(false,())))),(1:Int))
 else ((Go.Fn.style_Check a0)).bind fun r2=>
 bif (decide ((r2.2:Int)≠(0:Int))) then some ((([]:List (List xT20)),(([]:List xT8),(([]:List ((Int)×((Int)×(Unit)))),(false,())))),r2.2)
 else ((Go.Fn.ir_Check a1 (((List.length a0):Nat):Int) a2)).bind fun r3=>
 bif (decide ((r3.2:Int)≠(0:Int))) then some ((([]:List (List xT20)),(([]:List xT8),(([]:List ((Int)×((Int)×(Unit)))),(false,())))),r3.2)
 else bif (decide ((1000:Int)<a2)) then some ((([]:List (List xT20)),(([]:List xT8),(([]:List ((Int)×((Int)×(Unit)))),(false,())))),(2:Int))
 else (Lf.loopU (σ:=(Int)×(xT192×xT67)) (κ:=xT192×xT67) (fun z4=>
   bif (decide (z4.1<(((List.length a0):Nat):Int))) then ((Lf.idx a0 z4.1)).bind fun r5=>
   ((Go.Fn.style_Whole a0 r5.1)).bind fun r6=>
   ((Lf.app (24:Nat) z4.2.1.2.2.1 (r6.1::([]:List ((Int)×((Int)×((Int)×(Unit)))))))).bind fun r7=>
   some (.inl ((Go.IntKind.wrap .i64 (z4.1+(1:Int))),((Lf.u2 z4.2.1 (r7,z4.2.1.2.2.2)),z4.2.2)))
   else some (.inr z4.2)) ((0:Int),((((0:Int),((0:Int),(([]:List (UInt8)),()))),(((((0:Int),((0:Int),())),(((0:Int),((0:Int),())),(((0:Int),((0:Int),())),(((0:Int),((0:Int),())),(((0:Int),((0:Int),())),(((0:Int),((0:Int),())),(((0:Int),((0:Int),())),(((0:Int),((0:Int),())),(((0:Int),((0:Int),())),(((0:Int),((0:Int),())),(((0:Int),((0:Int),())),(((0:Int),((0:Int),())),(((0:Int),((0:Int),())),(((0:Int),((0:Int),())),(((0:Int),((0:Int),())),(((0:Int),((0:Int),())),(((0:Int),((0:Int),())),(((0:Int),((0:Int),())),(((0:Int),((0:Int),())),(((0:Int),((0:Int),())),(((0:Int),((0:Int),())),(((0:Int),((0:Int),())),(((0:Int),((0:Int),())),(((0:Int),((0:Int),())),(((0:Int),((0:Int),())),(((0:Int),((0:Int),())),(((0:Int),((0:Int),())),(((0:Int),((0:Int),())),(((0:Int),((0:Int),())),(((0:Int),((0:Int),())),(((0:Int),((0:Int),())),(((0:Int),((0:Int),())),())))))))))))))))))))))))))))))))),(((0:Int),((0:Int),((0:Int),((0:Int),((0:Int),((0:Int),((0:Int),((0:Int),((0:Int),((0:Int),((0:Int),((0:Int),((0:Int),((0:Int),((0:Int),((0:Int),((0:Int),((0:Int),((0:Int),((0:Int),((0:Int),((0:Int),((0:Int),((0:Int),((0:Int),((0:Int),((0:Int),((0:Int),((0:Int),((0:Int),((0:Int),((0:Int),())))))))))))))))))))))))))))))))),((0:Int),()))),(([]:List ((Int)×((Int)×((Int)×(Unit))))),(a3,((0:Int),(([]:List ((Int)×((Int)×((Int)×(Unit))))),((none:Option ((List xT53)×xT53)),(([]:List xT20),((0:Int),((([]:List (List xT20)),(([]:List xT8),(([]:List ((Int)×((Int)×(Unit)))),(false,())))),())))))))))),r1.2)):Option (xT192×xT67)).bind fun r8=>
 (Lf.loopU (σ:=(Int)×((Int)×(xT192×xT67))) (κ:=xT67×xT192) (fun z9=>
   bif (decide (z9.1<(((List.length a1):Nat):Int))) then ((Lf.idx a1 z9.1)).bind fun r10=>
   ((Go.Fn.layout_setter__do z9.2.2.1 r10 z9.2.1)).bind fun r11=>
   some (.inl ((Go.IntKind.wrap .i64 (z9.1+(1:Int))),(r10.1,(r11,z9.2.2.2))))
   else some (.inr (z9.2.2.2,z9.2.2.1))) ((0:Int),((0:Int),r8)):Option (xT67×xT192)).bind fun r12=>
 ((Go.Fn.layout_Rects r12.2.2.2.2.2.2.2.2.2.2.1.1)).bind fun r13=>
 some ((r12.2.2.2.2.2.2.2.2.2.2.1.1,(r13,r12.2.2.2.2.2.2.2.2.2.2.1.2.2)),(0:Int))
theorem layout_Layout_eq (a0:List xT27) (a1:List ((Int)×((Int)×xT3))) (a2:Int) (a3:Int):Lf.fnE layout_LayoutCtx layout_LayoutCode layout_LayoutAnn [.val (.sl (.st xY32)), .val (.sl (.st xY19)), .val (.int .i64), .val (.int .i64)] [(.st xY94),(.int .i64)] [.cell 8 30, .tmp 9] (a0,a1,a2,a3)=layout_Layout a0 a1 a2 a3:=by kernel_rfl
noncomputable def layout_LayoutEnt:Nat×Lf.Entry:=(7,⟨[.val (.sl (.st xY32)), .val (.sl (.st xY19)), .val (.int .i64), .val (.int .i64)],[(.st xY94),(.int .i64)],fun z=>layout_Layout z.1 z.2.1 z.2.2.1 z.2.2.2⟩)
theorem layout_Layout_ok:Lf.EntryOk Go.Proofs.Tryd.prog GG 7 layout_LayoutEnt.2:=
 Lf.fn_ok (c:=layout_LayoutCtx) (code:=layout_LayoutCode) (an:=layout_LayoutAnn) (slots:=[.cell 8 30, .tmp 9]) (fn:=Go.Proofs.Tryd.f7) (by kernel_rfl) ⟨Tys_ok,Lf.FnsOk.look (.con layout_Rects_ok (.con style_Check_ok (.con ir_Check_ok (.con style_Whole_ok (.con layout_setter__do_ok .nil))))),Lf.IpsOk.look .nil,TysEq_ok,TysIm_ok,Lf.IvsOk.look .nil,Lf.FxsOk.look .nil⟩ (by kernel_rfl) (by kernel_rfl) (by kernel_rfl) (by kernel_rfl) (by kernel_rfl) (Nat.le_of_ble_eq_true rfl) (by simp [Lf.Ty.top]) (by simp [Lf.Ty.top]) fun z r h=>(layout_Layout_eq z.1 z.2.1 z.2.2.1 z.2.2.2).trans h
noncomputable def foliolaw13_awakeCtx:Lf.Ctx:=⟨90,Tys,[layout_LayoutEnt,layout_ShowEnt,layout_RectsEnt,layout_HitEnt,layout_SameEnt],[],[],[],[],TysEq,[],some 4611686018427387904,TysIm,[]⟩
noncomputable def foliolaw13_awakeCode:Go.Code:=(Go.Proofs.Tryd.f5.body).getD .skip
def foliolaw13_awakeAnn:Lf.Ann:=(.seq .no (.seq .no (.seq .no (.seq .no (.seq (.seq (.join (.one .nrm ⟨[],[(2, .ref 2 [] 0)],[(58, .bool)],[(2,30,(.st xY94))],[]⟩) .no) .no) (.seq .no (.seq (.join (.one .nrm ⟨[],[],[(0, .bool)],[],[]⟩) .no) .no)))))))
noncomputable def foliolaw13_awake  :Option (Bool):=
 ((Go.Fn.layout_Layout ([]:List xT27) (((8:Int),((-(1:Int)),(([]:List (UInt8)),(([]:List (Int)),()))))::(((1:Int),((0:Int),(((115:UInt8)::((101:UInt8)::((101:UInt8)::((32:UInt8)::((116:UInt8)::((104:UInt8)::((101:UInt8)::((32:UInt8)::([]:List (UInt8)))))))))),(([]:List (Int)),()))))::(((3:Int),((0:Int),(([]:List (UInt8)),(([]:List (Int)),()))))::(((1:Int),((0:Int),(((103:UInt8)::((111:UInt8)::((32:UInt8)::((111:UInt8)::((110:UInt8)::([]:List (UInt8))))))),(([]:List (Int)),()))))::(((5:Int),((0:Int),(([]:List (UInt8)),(([]:List (Int)),()))))::(((9:Int),((0:Int),(([]:List (UInt8)),(([]:List (Int)),()))))::([]:List ((Int)×((Int)×xT3))))))))) (1:Int) (10:Int))).bind fun r1=>
 ((Go.Fn.layout_Show r1.1)).bind fun r2=>
 (bif (!(decide ((r1.2:Int)≠(0:Int)))) then bif (!(decide (((((List.length r2):Nat):Int):Int)≠(2:Int)))) then ((Lf.idx r2 (0:Int))).bind fun r3=>
  bif (!(decide ((r3:List (UInt8))≠((115:UInt8)::((101:UInt8)::((101:UInt8)::((32:UInt8)::((116:UInt8)::((104:UInt8)::((101:UInt8)::((32:UInt8)::((103:UInt8)::((111:UInt8)::([]:List (UInt8))))))))))))))) then ((Lf.idx r2 (1:Int))).bind fun r4=>
  bif (!(decide ((r4:List (UInt8))≠((111:UInt8)::((110:UInt8)::([]:List (UInt8))))))) then bif (!(decide (((((List.length r1.1.2.1):Nat):Int):Int)≠(2:Int)))) then bif (!(decide (((((List.length r1.1.2.2.1):Nat):Int):Int)≠(1:Int)))) then ((Go.Fn.layout_Rects r1.1.1)).bind fun r5=>
  some ((decide (((((List.length r5):Nat):Int):Int)≠(2:Int))),r1.1)
  else some (true,r1.1)
  else some (true,r1.1)
  else some (true,r1.1)
  else some (true,r1.1)
  else some (true,r1.1)
  else some (true,r1.1)).bind fun r6=>
 bif r6.1 then some false
 else ((Go.Fn.layout_Hit r6.2 (1:Int) (1:Int))).bind fun r7=>
 (bif (decide ((r7.1:Int)=(1:Int))) then bif r7.2 then ((Go.Fn.layout_Same r6.2 r6.2)).bind fun r8=>
  bif r8 then ((Lf.idx r6.2.2.1 (0:Int))).bind fun r9=>
  bif (decide ((r9.2.1:Int)=(8:Int))) then ((Lf.idx r6.2.2.1 (0:Int))).bind fun r10=>
  some (decide ((r10.2.2.1:Int)=(2:Int)))
  else some false
  else some false
  else some false
  else some false).bind fun r11=>
 some r11
theorem foliolaw13_awake_eq  :Lf.fnE foliolaw13_awakeCtx foliolaw13_awakeCode foliolaw13_awakeAnn [] [.bool] [.tmp 0] ()=foliolaw13_awake  :=by kernel_rfl
noncomputable def foliolaw13_awakeEnt:Nat×Lf.Entry:=(5,⟨[],[.bool],fun _=>foliolaw13_awake ⟩)
theorem foliolaw13_awake_ok:Lf.EntryOk Go.Proofs.Tryd.prog GG 5 foliolaw13_awakeEnt.2:=
 Lf.fn_ok (c:=foliolaw13_awakeCtx) (code:=foliolaw13_awakeCode) (an:=foliolaw13_awakeAnn) (slots:=[.tmp 0]) (fn:=Go.Proofs.Tryd.f5) (by kernel_rfl) ⟨Tys_ok,Lf.FnsOk.look (.con layout_Layout_ok (.con layout_Show_ok (.con layout_Rects_ok (.con layout_Hit_ok (.con layout_Same_ok .nil))))),Lf.IpsOk.look .nil,TysEq_ok,TysIm_ok,Lf.IvsOk.look .nil,Lf.FxsOk.look .nil⟩ (by kernel_rfl) (by kernel_rfl) (by kernel_rfl) (by kernel_rfl) (by kernel_rfl) (Nat.le_of_ble_eq_true rfl) (by simp [Lf.Ty.top]) (by simp [Lf.Ty.top]) fun z r h=>(foliolaw13_awake_eq ).trans h
end Go.Fn
open Go Go.Lf
set_option maxRecDepth 10000
namespace Go.Fn
noncomputable def foliolaw13_LayoutAllCtx:Lf.Ctx:=⟨168,Tys,[foliolaw13_awakeEnt,foliolaw13_flatEnt,layout_LayoutEnt,foliolaw11_TwinEnt,foliolaw13_bracedEnt,folioref02_CellsEnt],[11,12,15,75,80,89,53,113,94],[],[(11,(.rw 9 .str)),(12,(.rw 3 (.int .i64))),(15,(.mr 4 .bool)),(53,(.mr 4 .bool)),(75,(.rw 9 .str)),(80,(.rw 3 (.int .i64))),(89,(.rw 4 .bool)),(94,(.mr 4 .bool)),(113,(.mr 4 .bool))],[],TysEq,[],some 4611686018427387904,TysIm,[]⟩
noncomputable def foliolaw13_LayoutAllCode:Go.Code:=(Go.Proofs.Tryd.f3.body).getD .skip
def foliolaw13_LayoutAllAnn:Lf.Ann:=(.seq .no (.seq .no (.seq (.seq (.join (.one .nrm ⟨[1,3,2,0],[],[(34, .bool)],[],[]⟩) .no) .no) (.seq .no (.seq (.seq (.join (.one .nrm ⟨[1],[(9, .ref 9 [] 0)],[(49, .bool)],[(9,30,(.st xY94))],[]⟩) .no) .no) (.seq .no (.seq .no (.seq .no (.seq .no (.seq .no (.seq (.seq .no (.loop ⟨[54,55],[(9, .ref 9 [] 0)],[(13,(.int .i64)),(12,(.rw 3 (.int .i64))),(11,(.rw 9 .str)),(56,(.int .i64)),(14,(.int .i64)),(15,(.mr 4 .bool))],[(9,30,(.st xY94))],[]⟩ (.one (.ext 0) ⟨[],[(9, .ref 9 [] 0)],[(12,(.rw 3 (.int .i64))),(11,(.rw 9 .str)),(14,(.int .i64))],[(9,30,(.st xY94))],[]⟩) (.seq .no (.seq .no (.seq (.join (.one .nrm ⟨[54,55,56],[(9, .ref 9 [] 0)],[(13,(.int .i64)),(12,(.rw 3 (.int .i64))),(11,(.rw 9 .str)),(14,(.int .i64)),(15,(.mr 4 .bool))],[(9,30,(.st xY94))],[]⟩) (.seq .no (.seq .no (.seq .no (.cnd (.seq .no (.loop ⟨[13,66,14,54,55,56,67],[(9, .ref 9 [] 0)],[(68,(.int .i64)),(12,(.rw 3 (.int .i64))),(11,(.rw 9 .str)),(15,(.mr 4 .bool))],[(9,30,(.st xY94))],[]⟩ (.one (.ext 3) ⟨[13,14,54,55,56],[(9, .ref 9 [] 0)],[(12,(.rw 3 (.int .i64))),(11,(.rw 9 .str)),(15,(.mr 4 .bool))],[(9,30,(.st xY94))],[]⟩) (.seq .no (.seq .no (.seq (.join (.one .nrm ⟨[13,66,14,54,55,56,67,68],[(9, .ref 9 [] 0)],[(12,(.rw 3 (.int .i64))),(11,(.rw 9 .str)),(15,(.mr 4 .bool))],[(9,30,(.st xY94))],[]⟩) .no) .no))))) (.seq (.join (.one .nrm ⟨[54,55,56,14,13,61],[(9, .ref 9 [] 0),(17, .ref 17 [] 0)],[(85, .bool),(12,(.rw 3 (.int .i64))),(11,(.rw 9 .str)),(15,(.mr 4 .bool))],[(9,30,(.st xY94)),(17,40,(.st xY19))],[]⟩) .no) (.cnd .no (.seq .no (.cnd (.seq (.join (.one .nrm ⟨[14,54,55,56],[(9, .ref 9 [] 0)],[(13,(.int .i64)),(12,(.rw 3 (.int .i64))),(11,(.rw 9 .str)),(15,(.mr 4 .bool))],[(9,30,(.st xY94))],[]⟩) .no) .no) .no))))))))) .no))))) (.seq .no (.seq (.seq .no (.loop ⟨[116,14,117],[(9, .ref 9 [] 0)],[(20,(.int .i64)),(12,(.rw 3 (.int .i64))),(11,(.rw 9 .str)),(118,(.int .i64))],[(9,30,(.st xY94))],[]⟩ (.more (.ext 5) ⟨[14],[(9, .ref 9 [] 0)],[(11,(.rw 9 .str)),(20,(.int .i64))],[(9,30,(.st xY94))],[]⟩ (.one .ret ⟨[],[],[(8, .bool)],[],[]⟩)) (.seq .no (.seq .no (.seq (.seq .no (.seq .no (.loop ⟨[122,116,14,117,118,123],[(9, .ref 9 [] 0)],[(124,(.int .i64)),(20,(.int .i64)),(12,(.rw 3 (.int .i64))),(11,(.rw 9 .str))],[(9,30,(.st xY94))],[]⟩ (.more (.ext 7) ⟨[116,14,117,118],[(9, .ref 9 [] 0)],[(20,(.int .i64)),(12,(.rw 3 (.int .i64))),(11,(.rw 9 .str))],[(9,30,(.st xY94))],[]⟩ (.one .ret ⟨[],[],[(8, .bool)],[],[]⟩)) (.seq .no (.seq .no (.seq (.join (.more .nrm ⟨[122,116,14,117,118,123,124],[(9, .ref 9 [] 0)],[(20,(.int .i64)),(12,(.rw 3 (.int .i64))),(11,(.rw 9 .str))],[(9,30,(.st xY94))],[]⟩ (.one .ret ⟨[],[],[(8, .bool)],[],[]⟩)) (.seq .no (.seq .no (.seq (.seq (.join (.one .nrm ⟨[122,116,14,117,118,123,124,20],[(9, .ref 9 [] 0)],[(152, .bool),(12,(.rw 3 (.int .i64))),(11,(.rw 9 .str))],[(9,30,(.st xY94))],[]⟩) (.draw 22)) .no) .no)))) .no)))))) .no))))) (.seq (.join (.one .nrm ⟨[],[],[(8, .bool)],[],[]⟩) .no) .no))))))))))))))
noncomputable def foliolaw13_LayoutAll (a0:List ((List (UInt8))×((List (UInt8))×(((Int)×((Int)×((Int)×(Unit))))×(Unit))))) (a1:List ((Int)×((Int)×((List (UInt8))×((List (Int))×(Unit)))))) (a2:Int) (a3:Int):Option (Bool):=
 (Go.Fn.foliolaw13_awake).bind fun r1=>
 bif (!r1) then some false
 else (bif (!(decide ((3000:Int)<(((List.length a1):Nat):Int)))) then ((Go.Fn.foliolaw13_flat a1)).bind fun r2=>
  some (!r2)
  else some true).bind fun r3=>
 bif r3 then some true
 else ((Go.Fn.foliolaw11_Twin a1)).bind fun r4=>
 ((Go.Fn.layout_Layout a0 r4 a2 a3)).bind fun r5=>
 (bif (!(decide ((r5.2:Int)≠(0:Int)))) then some (r5.1.2.2.2.1,r5.1)
  else some (true,r5.1)).bind fun r6=>
 bif r6.1 then some true
 else ((Go.Fn.foliolaw13_braced a1)).bind fun r7=>
 bif (!r7) then some false
 else (Lf.loopU (σ:=(Int)×((List (Int))×((List (List (UInt8)))×((Int)×((Int)×((List (Bool))×xT67)))))) (κ:=(List (Int))×xT79) (fun z8=>
   bif (decide (z8.2.2.2.1<(((List.length a1):Nat):Int))) then (((Lf.idx a1 z8.2.2.2.1)).bind fun r9=>
    bif (decide ((r9.1:Int)=(1:Int))) then ((Go.Fn.folioref02_Cells r9.2.2.1)).bind fun r10=>
    (Lf.loopU (σ:=(Int)×((List (Int))×((List (List (UInt8)))×((List (Bool))×xT67)))) (κ:=(List (Int))×((List (List (UInt8)))×((List (Bool))×xT67))) (fun z11=>
      bif (decide (z11.1<(((List.length r10):Nat):Int))) then (((Lf.idx r10 z11.1)).bind fun r12=>
       bif (decide ((r12.1:List (UInt8))≠((32:UInt8)::([]:List (UInt8))))) then ((Lf.app (16:Nat) z11.2.2.1 (r12.1::([]:List (List (UInt8)))))).bind fun r13=>
       ((Lf.app (8:Nat) z11.2.1 (z8.1::([]:List (Int))))).bind fun r14=>
       some (r14,(r13,z11.2.2.2))
       else some z11.2).bind fun r15=>
      some (.inl ((Go.IntKind.wrap .i64 (z11.1+(1:Int))),r15))
      else some (.inr z11.2)) ((0:Int),(Lf.u2 z8.2 z8.2.2.2.2.2)):Option ((List (Int))×((List (List (UInt8)))×((List (Bool))×xT67)))).bind fun r16=>
    some (z8.1,(Lf.u2 r16 (z8.2.2.2.2.1,r16.2.2)))
    else (bif (decide ((r9.1:Int)=(2:Int))) then some ((decide ((r9.1:Int)=(2:Int))),(Lf.u2 z8.2 (z8.2.2.2.2.2.1,(z8.2.2.2.2.2.2,r9))))
     else bif (decide ((r9.1:Int)=(3:Int))) then some ((decide ((r9.1:Int)=(3:Int))),(Lf.u2 z8.2 (z8.2.2.2.2.2.1,(z8.2.2.2.2.2.2,r9))))
     else some ((decide ((r9.1:Int)=(4:Int))),(Lf.u2 z8.2 (z8.2.2.2.2.2.1,(z8.2.2.2.2.2.2,r9))))).bind fun r17=>
    bif r17.1 then ((Lf.app (1:Nat) r17.2.2.2.1 ((decide ((r17.2.2.2.2.2.1:Int)≠(2:Int)))::([]:List (Bool))))).bind fun r18=>
    bif (decide ((r17.2.2.2.2.2.1:Int)≠(2:Int))) then some ((Go.IntKind.wrap .i64 (z8.2.2.2.2.1+(1:Int))),(Lf.u2 r17.2 ((Go.IntKind.wrap .i64 (z8.2.2.2.2.1+(1:Int))),(r18,r17.2.2.2.2.1))))
    else some (z8.1,(Lf.u2 r17.2 (z8.2.2.2.2.1,(r18,r17.2.2.2.2.1))))
    else bif (decide ((r9.1:Int)=(5:Int))) then (((Lf.chk (List.length r17.2.2.2.1) (Go.IntKind.wrap .i64 ((((List.length r17.2.2.2.1):Nat):Int) - (1:Int))))).bind fun r19=>
     ((Lf.nth r17.2.2.2.1 r19)).bind fun r20=>
     bif r20 then some ((0:Int),(Lf.u3 r17.2 r17.2.2.2.2.1))
     else some (z8.1,(Lf.u3 r17.2 r17.2.2.2.2.1))).bind fun r21=>
    ((Lf.sub r21.2.2.2.1 (0:Int) (Go.IntKind.wrap .i64 ((((List.length r21.2.2.2.1):Nat):Int) - (1:Int))))).bind fun r22=>
    some (Lf.u3 r21 (z8.2.2.2.2.1,(r22,r21.2.2.2.2)))
    else some (z8.1,(Lf.u2 r17.2 (z8.2.2.2.2.1,(r17.2.2.2.1,r17.2.2.2.2.1)))):Option ((Int)×((List (Int))×((List (List (UInt8)))×((Int)×((List (Bool))×xT67)))))).bind fun r23=>
   some (.inl (Lf.u3 r23 ((Go.IntKind.wrap .i64 (z8.2.2.2.1+(1:Int))),r23.2.2.2)))
   else some (.inr (Lf.u2 z8.2 (z8.2.2.2.2.1,z8.2.2.2.2.2.2)))) ((0:Int),(([]:List (Int)),(([]:List (List (UInt8))),((0:Int),((0:Int),(([]:List (Bool)),r6.2)))))):Option ((List (Int))×xT79)).bind fun r24=>
 (Lf.loopU (σ:=(Int)×((List (Int))×xT79)) (κ:=xT79⊕(Bool)) (fun z25=>
   bif (decide (z25.2.2.2.1<(((List.length r24.2.2.2.1):Nat):Int))) then ((Lf.idx r24.2.2.2.1 z25.2.2.2.1)).bind fun r26=>
   (Lf.loopU (σ:=(Int)×xT83) (κ:=xT83⊕(Bool)) (fun z27=>
     bif (decide (z27.1<(((List.length r26):Nat):Int))) then (((Lf.idx r26 z27.1)).bind fun r28=>
      bif (decide ((r28.1:List (UInt8))=((32:UInt8)::([]:List (UInt8))))) then some (.inl z27.2)
      else (bif (!(decide ((((List.length z27.2.2.2.1):Nat):Int)≤z27.2.1))) then ((Lf.idx z27.2.2.2.1 z27.2.1)).bind fun r29=>
       bif (!(decide ((r28.1:List (UInt8))≠r29))) then ((Lf.idx z27.2.2.1 z27.2.1)).bind fun r30=>
       some ((decide ((r28.2.2.2.1:Int)≠r30)),z27.2.2)
       else some (true,z27.2.2)
       else some (true,z27.2.2)).bind fun r31=>
      bif r31.1 then some (.inr false)
      else some (.inl ((Go.IntKind.wrap .i64 (z27.2.1+(1:Int))),r31.2)):Option (xT83⊕(Bool))).bind fun r32=>
     Lf.onSum r32 (fun a33=>
     some (.inl ((Go.IntKind.wrap .i64 (z27.1+(1:Int))),a33))) (fun b34=>
     some (.inr (.inr b34)))
     else some (.inr (.inl z27.2))) ((0:Int),(Lf.u3 z25 z25.2.2.2.2)):Option (xT83⊕(Bool))).bind fun r35=>
   Lf.onSum r35 (fun a36=>
   some (.inl (Lf.u3 a36 ((Go.IntKind.wrap .i64 (z25.2.2.2.1+(1:Int))),a36.2.2.2)))) (fun b37=>
   some (.inr (.inr b37)))
   else some (.inr (.inl (z25.2.2.1,(z25.1,z25.2.2.2.2))))) ((0:Int),(Lf.u2 r24 ((0:Int),r24.2.2.2))):Option (xT79⊕(Bool))).bind fun r38=>
 Lf.onSum r38 (fun a39=>
 (bif (decide ((a39.2.1:Int)=(((List.length a39.1):Nat):Int))) then some (decide (((((List.length a39.2.2.2.2.1):Nat):Int):Int)=r24.2.2.1))
  else some false).bind fun r40=>
 some r40) (fun b41=>
 some b41)
theorem foliolaw13_LayoutAll_eq (a0:List ((List (UInt8))×((List (UInt8))×(((Int)×((Int)×((Int)×(Unit))))×(Unit))))) (a1:List ((Int)×((Int)×((List (UInt8))×((List (Int))×(Unit)))))) (a2:Int) (a3:Int):Lf.fnE foliolaw13_LayoutAllCtx foliolaw13_LayoutAllCode foliolaw13_LayoutAllAnn [.val (.sl xY35), .val (.sl (.st xY19)), .val (.int .i64), .val (.int .i64)] [.bool] [.tmp 8] (a0,a1,a2,a3)=foliolaw13_LayoutAll a0 a1 a2 a3:=by kernel_rfl
noncomputable def foliolaw13_LayoutAllEnt:Nat×Lf.Entry:=(3,⟨[.val (.sl xY35), .val (.sl (.st xY19)), .val (.int .i64), .val (.int .i64)],[.bool],fun z=>foliolaw13_LayoutAll z.1 z.2.1 z.2.2.1 z.2.2.2⟩)
theorem foliolaw13_LayoutAll_ok:Lf.EntryOk Go.Proofs.Tryd.prog GG 3 foliolaw13_LayoutAllEnt.2:=
 Lf.fn_ok (c:=foliolaw13_LayoutAllCtx) (code:=foliolaw13_LayoutAllCode) (an:=foliolaw13_LayoutAllAnn) (slots:=[.tmp 8]) (fn:=Go.Proofs.Tryd.f3) (by kernel_rfl) ⟨Tys_ok,Lf.FnsOk.look (.con foliolaw13_awake_ok (.con foliolaw13_flat_ok (.con layout_Layout_ok (.con foliolaw11_Twin_ok (.con foliolaw13_braced_ok (.con folioref02_Cells_ok .nil)))))),Lf.IpsOk.look .nil,TysEq_ok,TysIm_ok,Lf.IvsOk.look .nil,Lf.FxsOk.look .nil⟩ (by kernel_rfl) (by kernel_rfl) (by kernel_rfl) (by kernel_rfl) (by kernel_rfl) (Nat.le_of_ble_eq_true rfl) (by simp [Lf.Ty.top]) (by simp [Lf.Ty.top]) fun z r h=>(foliolaw13_LayoutAll_eq z.1 z.2.1 z.2.2.1 z.2.2.2).trans h
end Go.Fn
/- Chapter 13's first examples, reckoned by the kernel. -/
namespace Go.Fn
open Go Go.Lf
theorem awake_true:foliolaw13_awake=some true:=by kernel_rfl
theorem styles0:style_Check []=some (0,0):=by kernel_rfl
end Go.Fn
/-
  Loops over lists, plainly.
-/
namespace Go.Lf
open Go
theorem wrap64 {x:Int} (h0: -9223372036854775808≤x) (h1:x≤9223372036854775807):IntKind.wrap .i64 x=x:=by
 simp only [IntKind.wrap]
 simp [IntKind.bits,IntKind.signed]
 omega
theorem wrapS {n:Nat} (h:n<9223372036854775807):IntKind.wrap .i64 ((n:Int)+1)=((n+1:Nat):Int):=by
 rw [wrap64 (by omega) (by omega)];omega
theorem idx_nat {α:Type} (l:List α) (i:Nat):idx l (i:Int)=l[i]? :=by
 unfold idx
 rw [if_pos (by omega)];rfl
theorem app_of {α:Type} {b:Nat} {l m:List α} (h:(l.length+m.length)*b≤140737488355328):app b l m=some (l++m):=if_pos h
theorem cat_of {l m:List UInt8} (h:l.length+m.length≤9223372036854775807):cat l m=some (l++m):=if_pos h
section
variable {α σ κ:Type}
end
end Go.Lf
/-
  A small logic of answers: an answer is there, and has such a property; loops whose bound nothing reaches.
-/
namespace Go.Lf
open Go
def Ok {α:Type} (x:Option α) (Q:α→Prop):Prop:= ∃ k,x=some k∧Q k
section
variable {α β σ κ:Type}
theorem Ok.some {x:α} {Q:α→Prop} (h:Q x):Ok (some x) Q:=⟨x,rfl,h⟩
theorem Ok.of {x:Option α} {k:α} {Q:α→Prop} (hx:x=Option.some k) (h:Q k):Ok x Q:=⟨k,hx,h⟩
theorem Ok.bind {x:Option α} {f:α→Option β} {Q:α→Prop} {R:β→Prop} (h:Ok x Q) (hf: ∀ a,Q a→Ok (f a) R):Ok (x.bind f) R:=by
 obtain ⟨k,rfl,hk⟩:=h
 exact hf k hk
theorem Ok.imp {x:Option α} {Q R:α→Prop} (h:Ok x Q) (hf: ∀ a,Q a→R a):Ok x R:=by
 obtain ⟨k,rfl,hk⟩:=h
 exact ⟨k,rfl,hf k hk⟩
theorem Ok.and {x:Option α} {Q R:α→Prop} (h:Ok x Q) (h':Ok x R):Ok x fun a=>Q a∧R a:=by
 obtain ⟨k,rfl,hk⟩:=h
 obtain ⟨k',hk',hr⟩:=h'
 injection hk' with hk'
 subst hk'
 exact ⟨k,rfl,hk,hr⟩
theorem Ok.eq {x:Option α} {k:α} (h:Ok x (· =k)):x=Option.some k:=by
 obtain ⟨_,rfl,rfl⟩:=h
 rfl
theorem Ok.cond {b:Bool} {x y:Option α} {Q:α→Prop} (h:b=true→Ok x Q) (h':b=false→Ok y Q):Ok (cond b x y) Q:=by
 cases b
 ·exact h' rfl
 ·exact h rfl
theorem Ok.onSum {d:α⊕β} {f:α→Option κ} {g:β→Option κ} {Q:κ→Prop} (h: ∀ a,d= .inl a→Ok (f a) Q) (h': ∀ b,d= .inr b→Ok (g b) Q):Ok (onSum d f g) Q:=by
 cases d
 ·exact h _ rfl
 ·exact h' _ rfl
theorem Ok.onL {a:α} {f:α→Option κ} {g:β→Option κ} {Q:κ→Prop} (h:Ok (f a) Q):Ok (Lf.onSum (.inl a) f g) Q:=h
def Nx {σ κ:Type} (I:σ→Prop) (Q:κ→Prop):σ⊕κ→Prop
 | .inl z=>I z
 | .inr k=>Q k
theorem iter_ok {B:σ→Option (σ⊕κ)} {Q:κ→Prop} (I:Nat→σ→Prop) (h: ∀ n z,I n z→Ok (B z) (Nx (fun z'=> ∃ m,m<n∧I m z') Q)): ∀ (N n:Nat) (z:σ),n<N→I n z→Ok (iter B N z) Q
 | 0,n,_,hn,_=>by omega
 | N+1,n,z,hn,hz=>by
  obtain ⟨d,hd,hq⟩:=h n z hz
  unfold iter
  rw [hd]
  cases d with
  | inl z'=>
   obtain ⟨m,hm,hi⟩:=hq
   exact iter_ok I h N m z' (by omega) hi
  | inr k=>exact ⟨k,rfl,hq⟩
theorem Ok.loop {B:σ→Option (σ⊕κ)} {Q:κ→Prop} (I:Nat→σ→Prop) (h: ∀ n z,I n z→Ok (B z) (Nx (fun z'=> ∃ m,m<n∧I m z') Q)) (n:Nat) (z:σ) (hn:n<4611686018427387904) (hz:I n z):Ok (loopU B z) Q:=iter_ok I h _ n z hn hz
theorem Ok.range {α:Type} {B:Int×σ→Option ((Int×σ)⊕κ)} {Q:κ→Prop} (l:List α) (hl:l.length<4611686018427387904) (I:Nat→σ→Prop) (hstep: ∀ (i:Nat) x s,l[i]? =Option.some x→I i s→Ok (B ((i:Int),s)) (Nx (fun z=>z.1=((i+1:Nat):Int)∧I (i+1) z.2) Q))
  (hend: ∀ s,I l.length s→Ok (B ((l.length:Int),s)) (Nx (fun _=>False) Q)) {s:σ} (h0:I 0 s):Ok (loopU B ((0:Int),s)) Q:=by
 refine Ok.loop (fun n z=> ∃ i:Nat,i+n=l.length∧z.1=(i:Int)∧I i z.2) (fun n z hz=>?_) l.length (0,s) hl ⟨0,by omega,rfl,h0⟩
 obtain ⟨i,hi,hz1,hz2⟩:=hz
 obtain ⟨z1,z2⟩:=z
 simp only at hz1 hz2
 subst hz1
 by_cases hlt:i<l.length
 ·refine (hstep i l[i] z2 (List.getElem?_eq_getElem hlt) hz2).imp fun d hd=>?_
  cases d with
  | inl z=>exact ⟨n - 1,by omega,i+1,by omega,hd.1,hd.2⟩
  | inr k=>exact hd
 ·have:i=l.length:=by omega
  subst this
  refine (hend z2 hz2).imp fun d hd=>?_
  cases d with
  | inl z=>exact hd.elim
  | inr k=>exact hd
theorem Ok.range0 {α:Type} {B:Int→Option (Int⊕κ)} {Q:κ→Prop} (l:List α) (hl:l.length<4611686018427387904) (I:Nat→Prop) (hstep: ∀ (i:Nat) x,l[i]? =Option.some x→I i→Ok (B (i:Int)) (Nx (fun z=>z=((i+1:Nat):Int)∧I (i+1)) Q))
  (hend:I l.length→Ok (B (l.length:Int)) (Nx (fun _=>False) Q)) (h0:I 0):Ok (loopU B (0:Int)) Q:=by
 refine Ok.loop (fun n z=> ∃ i:Nat,i+n=l.length∧z=(i:Int)∧I i) (fun n z hz=>?_) l.length 0 hl ⟨0,by omega,rfl,h0⟩
 obtain ⟨i,hi,rfl,hz2⟩:=hz
 by_cases hlt:i<l.length
 ·refine (hstep i l[i] (List.getElem?_eq_getElem hlt) hz2).imp fun d hd=>?_
  cases d with
  | inl z=>exact ⟨n - 1,by omega,i+1,by omega,hd.1,hd.2⟩
  | inr k=>exact hd
 ·have:i=l.length:=by omega
  subst this
  refine (hend hz2).imp fun d hd=>?_
  cases d with
  | inl z=>exact hd.elim
  | inr k=>exact hd
theorem Ok.idx {l:List α} {i:Nat} {x:α} {Q:α→Prop} (h:l[i]? =Option.some x) (hq:Q x):Ok (idx l (i:Int)) Q:=⟨x,by rw [idx_nat,h],hq⟩
theorem Ok.app {b:Nat} {l m:List α} {Q:List α→Prop} (h:(l.length+m.length)*b≤140737488355328) (hq:Q (l++m)):Ok (app b l m) Q:=⟨_,app_of h,hq⟩
theorem Ok.idxE {l:List α} {i:Nat} {x:α} (h:l[i]? =Option.some x):Ok (Lf.idx l (i:Int)) (x= ·):=⟨x,by rw [idx_nat,h],rfl⟩
theorem Ok.appE {b:Nat} {l m:List α} (h:(l.length+m.length)*b≤140737488355328):Ok (Lf.app b l m) (· =l++m):=⟨_,app_of h,rfl⟩
theorem Ok.yes {p:Prop} [Decidable p] {x y:Option α} {Q:α→Prop} (hp:p) (h:Ok x Q):Ok (bif decide p then x else y) Q:=by rw [decide_eq_true hp];exact h
theorem Ok.no {p:Prop} [Decidable p] {x y:Option α} {Q:α→Prop} (hp: ¬ p) (h:Ok y Q):Ok (bif decide p then x else y) Q:=by rw [decide_eq_false hp];exact h
theorem Ok.ifs {p:Prop} [Decidable p] {x y:Option α} {Q:α→Prop} (h:p→Ok x Q) (h': ¬ p→Ok y Q):Ok (bif decide p then x else y) Q:=Ok.cond (fun e=>h (of_decide_eq_true e)) fun e=>h' (of_decide_eq_false e)
theorem Ok.inl {z:σ} {I:σ→Prop} {Q:κ→Prop} (h:I z):Ok (Option.some (Sum.inl z:σ⊕κ)) (Nx I Q):=⟨_,rfl,h⟩
theorem Ok.inr {k:κ} {I:σ→Prop} {Q:κ→Prop} (h:Q k):Ok (Option.some (Sum.inr k:σ⊕κ)) (Nx I Q):=⟨_,rfl,h⟩
theorem Ok.ends {x:Option α} {Q:α→Prop} (h:Ok x Q):Ok (x.bind fun r=>Option.some r) Q:=by
 obtain ⟨k,rfl,hk⟩:=h
 exact ⟨k,rfl,hk⟩
theorem Ok.sb {x:α} {f:α→Option β} {Q:β→Prop} (h:Ok (f x) Q):Ok ((Option.some x).bind f) Q:=h
theorem Ok.chk {n:Nat} {i:Int} {Q:Nat→Prop} (h0:0≤i) (h1:i<n) (hq:Q i.toNat):Ok (chk n i) Q:=⟨_,if_pos ⟨h0,h1⟩,hq⟩
theorem Ok.chkE {n i:Nat} (h:i<n):Ok (Lf.chk n (i:Int)) (i= ·):=⟨i,by unfold Lf.chk;rw [if_pos (by omega)];rfl,rfl⟩
theorem Ok.nth {l:List α} {i:Nat} {Q:α→Prop} (h:i<l.length) (hq:Q l[i]):Ok (nth l i) Q:=⟨_,List.getElem?_eq_getElem h,hq⟩
theorem Ok.at_ {l:List α} {i:Int} {Q:α→Prop} (h0:0≤i) (h:i.toNat<l.length) (hq:Q l[i.toNat]):Ok (Lf.idx l i) Q:=⟨_,by unfold Lf.idx;rw [if_pos h0,List.getElem?_eq_getElem h],hq⟩
theorem Ok.sub {l:List α} {a b:Int} {Q:List α→Prop} (h0:0≤a) (h1:a≤b) (h2:b≤l.length) (hq:Q ((l.drop a.toNat).take (b.toNat - a.toNat))):Ok (Lf.sub l a b) Q:=⟨_,if_pos ⟨h0,h1,h2⟩,hq⟩
theorem Ok.nz {b x:Int} {Q:Int→Prop} (h:b≠0) (hq:Q x):Ok (Lf.nz b x) Q:=⟨_,if_neg h,hq⟩
theorem Ok.cat {l m:List UInt8} {Q:List UInt8→Prop} (h:l.length+m.length≤9223372036854775807) (hq:Q (l++m)):Ok (Lf.cat l m) Q:=⟨_,cat_of h,hq⟩
end
end Go.Lf
/- text.Width, plainly. -/
namespace Go.Fn
open Go Go.Lf
def wideL:List (Int×(Int×Unit)):=[(4352,(4447,())),(11904,(12350,())),(12353,(13311,())),(13312,(19903,())),(19968,(42191,())),(44032,(55203,())),(63744,(64255,())),(65072,(65135,())),(65280,(65376,())),(65504,(65510,())),(127744,(128591,())),(129280,(129535,())),(131072,(262141,()))]
noncomputable def widthF (a0:Int):Option Int:=
 ((((bif (decide ((0:Int)≤a0)) then some (decide (a0<(32:Int)))
  else some false).bind fun r1=>
 bif r1 then some (.inl ())
 else (bif (decide ((127:Int)≤a0)) then some (decide (a0≤(159:Int)))
  else some false).bind fun r2=>
 bif r2 then some (.inl ())
 else (bif (decide ((768:Int)≤a0)) then some (decide (a0≤(879:Int)))
  else some false).bind fun r3=>
 bif r3 then some (.inl ())
 else (bif (decide ((8203:Int)≤a0)) then some (decide (a0≤(8205:Int)))
  else some false).bind fun r4=>
 bif r4 then some (.inl ())
 else (bif (decide ((65024:Int)≤a0)) then some (decide (a0≤(65039:Int)))
  else some false).bind fun r5=>
 bif r5 then some (.inl ())
 else some (.inr ()):Option (Unit⊕Unit)).bind fun r=>
 onSum r (fun _=>some (.inl (0:Int))) (fun _=>some (.inr ())):Option (Int⊕Unit))).bind fun r=>
 onSum r (fun a=>some a) fun _=>
 (iter (σ:=Int) (κ:=Int⊕Unit) (fun z=>
   bif (decide (z<(13:Int))) then ((Go.Lf.idx wideL z)).bind fun r=>
   (bif (decide (r.1≤a0)) then some (decide (a0≤r.2.1))
    else some false).bind fun b=>
   bif b then some (.inr (.inl (2:Int)))
   else some (.inl (Go.IntKind.wrap .i64 (z+(1:Int))))
   else some (.inr (.inr ()))) 4000 (0:Int)).bind fun r=>
 onSum r (fun a=>some a) (fun _=>some (1:Int))
theorem width_eq (a0:Int):text_Width a0=widthF a0:=by kernel_rfl
end Go.Fn
/- Characters and their widths, plainly: the program's and the document's are alike. -/
namespace Go.Fn
open Go Go.Lf
def btw (r a b:Int):Bool:=decide (a≤r) && decide (r≤b)
theorem and_some (p q:Bool):(bif p then some q else some false)=some (p && q):=by cases p<;>rfl
def w0 (r:Int):Bool:=(decide (0≤r) && decide (r<32)) || (btw r 127 159 || (btw r 768 879 || (btw r 8203 8205 || btw r 65024 65039)))
def w2 (r:Int):Bool:=wideL.any fun p=>btw r p.1 p.2.1
def wd (r:Int):Int:=if w0 r then 0 else if w2 r then 2 else 1
theorem width_wd (r:Int):text_Width r=some (wd r):=by
 rw [width_eq]
 have hloop: ∀ {f:Int→Option (Int⊕(Int⊕Unit))},(∀ z,f z=bif (decide (z<(13:Int))) then ((Go.Lf.idx wideL z)).bind fun p=>
   (bif (decide (p.1≤r)) then some (decide (r≤p.2.1))
    else some false).bind fun b=>
   bif b then some (.inr (.inl (2:Int)))
   else some (.inl (Go.IntKind.wrap .i64 (z+(1:Int))))
   else some (.inr (.inr ())))→iter f 4000 (0:Int)=some (if w2 r then .inl 2 else .inr ()):=by
  intro f hf
  have h:=iter_ok (B:=f) (Q:=fun d=>d=if w2 r then .inl 2 else .inr ()) (fun k z=> ∃ i:Nat,z=(i:Int)∧i+k=13∧w2 r=(wideL.drop i).any fun p=>btw r p.1 p.2.1) (fun k z hz=>?_) 4000 13 0 (by omega) ⟨0,rfl,rfl,rfl⟩
  ·obtain ⟨d,h1,h2⟩:=h
   rw [h1,h2]
  ·obtain ⟨i,rfl,hi,hw⟩:=hz
   rw [hf]
   have hl:wideL.length=13:=rfl
   refine Ok.ifs (fun hlt=>?_) fun hge=>Ok.inr ?_
   ·have hlt:(i:Int)<13:=hlt
    have hi':i<wideL.length:=by omega
    refine Ok.bind (Ok.idxE (List.getElem?_eq_getElem hi')) fun p hp=>?_
    subst hp
    rw [and_some]
    rw [List.drop_eq_getElem_cons hi',List.any_cons] at hw
    refine Ok.sb (Ok.cond (fun hb=>Ok.inr ?_) fun hb=>Ok.inl ⟨k - 1,by omega,i+1,wrapS (by omega),by omega,?_⟩)
    ·have hb:btw r wideL[i].1 wideL[i].2.1=true:=hb
     rw [hb,Bool.true_or] at hw
     rw [hw];rfl
    ·have hb:btw r wideL[i].1 wideL[i].2.1=false:=hb
     rw [hb,Bool.false_or] at hw
     exact hw
   ·have hge: ¬ (i:Int)<13:=hge
    have h0:wideL.drop i=[]:=List.drop_eq_nil_of_le (by omega)
    rw [h0] at hw
    rw [hw];rfl
 unfold widthF
 rw [hloop fun _=>rfl]
 simp only [and_some,Option.bind_some]
 unfold wd w0 btw
 cases (decide (0≤r) && decide (r<32)) with
 | true=>rfl
 | false=>
  cases (decide (127≤r) && decide (r≤159)) with
  | true=>rfl
  | false=>
   cases (decide (768≤r) && decide (r≤879)) with
   | true=>rfl
   | false=>
    cases (decide (8203≤r) && decide (r≤8205)) with
    | true=>rfl
    | false=>
     cases (decide (65024≤r) && decide (r≤65039)) with
     | true=>rfl
     | false=>cases w2 r<;>rfl
abbrev Chr:Type:=Int×(Int×(Int×(Bool×Unit)))
def chr_ (l:List UInt8) (p:Nat):Chr:=(((Lib.decodeL (l.drop p)).1:Int),(p:Int),((Lib.decodeL (l.drop p)).2:Int),decide ((Lib.decodeL (l.drop p)).1=65533) && decide ((Lib.decodeL (l.drop p)).2=1),())
def chS (l:List UInt8):Nat→Nat→List Chr
 | 0,_=>[]
 | f+1,p=>if p<l.length then chr_ l p::chS l f (p+(Lib.decodeL (l.drop p)).2) else []
def rawC (c:Chr):Chr:=(c.1,c.2.1,0,false,())
theorem dec_fit (l:List UInt8) (p:Nat) (h:p<l.length):p+(Lib.decodeL (l.drop p)).2≤l.length:=by
 have:=Lib.decodeL_le (l.drop p) (by intro e;have:=congrArg List.length e;simp at this;omega)
 rw [List.length_drop] at this
 omega
theorem ch_cons {l:List UInt8} {f p:Nat} (h:p<l.length):chS l (f+1) p=chr_ l p::chS l f (p+(Lib.decodeL (l.drop p)).2):=by rw [chS,if_pos h]
theorem ch_nil {l:List UInt8} {f p:Nat} (h: ¬ p<l.length):chS l f p=[]:=by
 cases f with
 | zero=>rfl
 | succ f=>rw [chS,if_neg h]
theorem ch_fuel (l:List UInt8): ∀ (f g p:Nat),l.length≤p+f→l.length≤p+g→chS l f p=chS l g p
 | 0,g,p,h1,_=>by rw [ch_nil (by omega),ch_nil (by omega)]
 | f+1,g,p,h1,h2=>by
  by_cases hq:p<l.length
  ·have hw:=Lib.decodeL_width (l.drop p)
   cases g with
   | zero=>omega
   | succ g=>rw [ch_cons hq,ch_cons hq,ch_fuel l f g _ (by omega) (by omega)]
  ·rw [ch_nil hq,ch_nil hq]
theorem ch_len (l:List UInt8): ∀ (f p:Nat),(chS l f p).length≤f
 | 0,_=>Nat.le_refl _
 | f+1,p=>by
  unfold chS
  split
  ·have:=ch_len l f (p+(Lib.decodeL (l.drop p)).2)
   simp;omega
  ·simp
theorem ch_step {l:List UInt8} {p:Nat} (h:p<l.length):chS l l.length p=chr_ l p::chS l l.length (p+(Lib.decodeL (l.drop p)).2):=by
 have hw:=Lib.decodeL_width (l.drop p)
 have h0:chS l l.length p=chS l (l.length+1) p:=ch_fuel l _ _ p (by omega) (by omega)
 rw [h0,ch_cons h]
theorem dec_eq (l:List UInt8) (h:l≠[]):utf8_Decode l=some (((Lib.decodeL l).1:Int),((Lib.decodeL l).2:Int)):=by
 have hg:Lib.decodeGo ⟨l.toArray⟩=Lib.decodeL l:=by
  unfold Lib.decodeGo Lib.decodeL
  have:(⟨l.toArray⟩:ByteArray).size≠0:=by
   show l.toArray.size≠0
   simpa using h
  rw [if_neg this]
 show some (((Lib.decodeGo ⟨l.toArray⟩).1:Int),((Lib.decodeGo ⟨l.toArray⟩).2:Int))=_
 rw [hg]
theorem rune_at (l:List UInt8) (p:Nat):runeAt l (p:Int)=((Lib.decodeL (l.drop p)).1:Int)∧runeW l (p:Int)=((Lib.decodeL (l.drop p)).2:Int):=by
 unfold runeAt runeW
 rw [Int.toNat_natCast, ← Lib.decodeL_drop]
 exact ⟨rfl,rfl⟩
def ctl (r:Int):Bool:=decide (r<32) || btw r 127 159
def okC (c:Chr):Bool:= !c.2.2.2.1 && !ctl c.1
theorem control_eq (r:Int):text_control r=some (ctl r):=by
 unfold text_control ctl btw
 by_cases h:r<32
 ·rw [decide_eq_true h];rfl
 ·rw [decide_eq_false h,and_some];rfl
theorem bad_eq (l:List UInt8) (p:Nat) (h:p<l.length):text_bad l (p:Int)=some (chr_ l p).2.2.2.1:=by
 have hne:l.drop p≠[]:=by intro e;have:=congrArg List.length e;simp at this;omega
 unfold text_bad
 rw [show sub l (p:Int) ((l.length:Nat):Int)=some (l.drop p) by
  unfold sub
  rw [if_pos (by omega),Int.toNat_natCast,Int.toNat_natCast,List.take_of_length_le (by simp)]]
 rw [Option.bind_some,dec_eq _ hne,Option.bind_some,and_some,Option.bind_some]
 unfold chr_
 have e1:decide ((((Lib.decodeL (l.drop p)).1:Nat):Int)=65533)=decide ((Lib.decodeL (l.drop p)).1=65533):=decide_eq_decide.2 (by omega)
 have e2:decide ((((Lib.decodeL (l.drop p)).2:Nat):Int)=1)=decide ((Lib.decodeL (l.drop p)).2=1):=decide_eq_decide.2 (by omega)
 show some (decide ((((Lib.decodeL (l.drop p)).1:Nat):Int)=65533) && decide ((((Lib.decodeL (l.drop p)).2:Nat):Int)=1))=_
 rw [e1,e2]
theorem plain_ok (l:List UInt8) (hl:l.length≤1000000000) (h: ∀ c∈chS l l.length 0,okC c=true):text_Plain l=some (0,true):=by
 refine Ok.eq ?_
 unfold text_Plain
 refine Ok.bind (Q:=fun d=>d= .inr ()) ?_ fun d hd=>by rw [hd];exact Ok.some rfl
 refine Ok.loop (fun k (z:List UInt8×Int)=> ∃ p:Nat,z=(l,(p:Int))∧p+k=l.length∧ ∀ c∈chS l l.length p,okC c=true) (fun k z hz=>?_) l.length _ (by omega) ⟨0,rfl,by omega,h⟩
 obtain ⟨p,rfl,hp,hc⟩:=hz
 refine Ok.ifs (fun hlt=>?_) fun _=>Ok.inr rfl
 have hlt:(p:Int)<(l.length:Int):=hlt
 have hpl:p<l.length:=by omega
 obtain ⟨er,ew⟩:=rune_at l p
 have hw1:=Lib.decodeL_width (l.drop p)
 have hw2:=dec_fit l p hpl
 rw [ch_step hpl] at hc
 have h0:=hc _ List.mem_cons_self
 unfold okC at h0
 rw [Bool.and_eq_true] at h0
 have h01:(chr_ l p).2.2.2.1=false:=by simpa using h0.1
 have h02:ctl (chr_ l p).1=false:=by simpa using h0.2
 have h02:ctl ((Lib.decodeL (l.drop p)).1:Int)=false:=h02
 refine Ok.bind (Q:=fun r=>r.1=false∧r.2=(l,((p+(Lib.decodeL (l.drop p)).2:Nat):Int))) ?_ fun r hr=>Ok.cond (fun h=>by rw [hr.1] at h;cases h) fun _=>Ok.inl ⟨k - (Lib.decodeL (l.drop p)).2,by omega,_,hr.2,by omega,fun c hc'=>hc c (List.mem_cons_of_mem _ hc')⟩
 dsimp only
 rw [er,ew,control_eq,Option.bind_some,h02]
 have e:((l,(p:Int)+((Lib.decodeL (l.drop p)).2:Int)):List UInt8×Int)=(l,((p+(Lib.decodeL (l.drop p)).2:Nat):Int)):=by rw [Int.natCast_add]
 refine Ok.cond (fun _=>Ok.ifs (fun _=>?_) fun _=>Ok.some ⟨rfl,e⟩) fun h=>(by cases h)
 rw [bad_eq l p hpl,h01]
 exact Ok.some ⟨rfl,e⟩
abbrev Cel:Type:=List UInt8×(Int×(Int×Unit))
def piece (s:List UInt8) (c:Chr):List UInt8:=(s.drop c.2.1.toNat).take c.2.2.1.toNat
def addC (s:List UInt8) (out:List Cel) (c:Chr):List Cel:=
 if wd c.1=0∧0<out.length then out.set (out.length - 1) ((out.getD (out.length - 1) ([],(0,(0,())))).1++piece s c,(out.getD (out.length - 1) ([],(0,(0,())))).2)
 else out++[(piece s c,(c.2.1,(max (wd c.1) 1,())))]
def cellsS (s:List UInt8):List Cel:=(chS s s.length 0).foldl (addC s) []
theorem addC_len (s:List UInt8) (out:List Cel) (c:Chr):(addC s out c).length≤out.length+1:=by
 unfold addC
 split
 ·rw [List.length_set];omega
 ·rw [List.length_append];simp
theorem getD_at {l:List Cel} {i:Nat} (h:i<l.length):l.getD i ([],(0,(0,())))=l[i]:=by
 rw [List.getD_eq_getElem?_getD,List.getElem?_eq_getElem h];rfl
theorem cells_eq (s:List UInt8) (hs:s.length≤1000000000):text_Cells s=some (cellsS s):=by
 refine Ok.eq ?_
 unfold text_Cells
 refine Ok.ends (Ok.loop (fun k (z:Int×List Cel)=> ∃ p:Nat,z.1=(p:Int)∧p+k=s.length∧z.2.length≤p∧(∀ c∈z.2,c.1.length≤p)∧(chS s s.length p).foldl (addC s) z.2=cellsS s) (fun k z hz=>?_) s.length _ (by omega) ⟨0,rfl,by omega,by simp,by simp,rfl⟩)
 obtain ⟨i,l⟩:=z
 obtain ⟨p,hz1,hz2,hz3,hz4,hz5⟩:=hz
 dsimp only at hz1 hz2 hz3 hz4 hz5 ⊢
 subst hz1
 refine Ok.ifs (fun hlt=>?_) fun hge=>Ok.inr ?_
 case refine_2=>
  have hge: ¬ (p:Int)<(s.length:Int):=hge
  rw [ch_nil (by omega)] at hz5
  exact hz5
 have hlt:(p:Int)<(s.length:Int):=hlt
 have hps:p<s.length:=by omega
 have hw1:=Lib.decodeL_width (s.drop p)
 have hw2:=dec_fit s p hps
 have hne:s.drop p≠[]:=by intro e;have:=congrArg List.length e;simp at this;omega
 refine Ok.bind (Ok.sub (Q:=fun t=>t=s.drop p) (by omega) (by omega) (by omega) (by rw [Int.toNat_natCast,Int.toNat_natCast,List.take_of_length_le (by simp)])) fun t ht=>?_
 subst ht
 refine Ok.bind (Ok.of (dec_eq _ hne) (Q:=fun r=>r=(((Lib.decodeL (s.drop p)).1:Int),((Lib.decodeL (s.drop p)).2:Int))) rfl) fun r hr=>?_
 subst hr
 dsimp only
 generalize hde:Lib.decodeL (s.drop p)=de at*
 obtain ⟨R,w⟩:=de
 dsimp only at hw1 hw2 ⊢
 have en:IntKind.wrap .i64 ((p:Int)+(w:Int))=((p+w:Nat):Int):=by rw [wrap64 (by omega) (by omega),Int.natCast_add]
 rw [en,width_wd,Option.bind_some]
 rw [ch_step hps,hde,List.foldl_cons] at hz5
 have hchr:chr_ s p=((R:Int),((p:Int),((w:Int),(decide (R=65533) && decide (w=1),())))):=by unfold chr_;rw [hde]
 have hpc:piece s (chr_ s p)=(s.drop p).take w:=by rw [hchr];unfold piece;simp
 have hpl:((s.drop p).take w).length=w:=by rw [List.length_take,List.length_drop];omega
 have hsub:Ok (sub s (p:Int) ((p+w:Nat):Int)) (· =(s.drop p).take w):=Ok.sub (by omega) (by omega) (by omega) (by
  rw [Int.toNat_natCast,Int.toNat_natCast,Nat.add_sub_cancel_left])
 refine Ok.bind (Q:=fun m:List Cel=>m=addC s l (chr_ s p)∧ ∀ c∈m,c.1.length≤p+w) ?_ fun m hm=>Ok.inl ⟨k - w,by omega,p+w,rfl,by omega,?_,hm.2,?_⟩
 case refine_2=>
  have h1:=addC_len s l (chr_ s p)
  show m.length≤_
  rw [hm.1];omega
 case refine_3=>
  show (chS s s.length (p+w)).foldl (addC s) m=_
  rw [hm.1];exact hz5
 refine Ok.bind (Q:=fun q=>q.2=l∧(q.1=true↔(wd R=0∧0<l.length))) (Ok.ifs (fun h=>Ok.some ⟨rfl,?_⟩) fun h=>Ok.some ⟨rfl,?_⟩) fun q hq=>?_
 ·have h:wd (R:Int)=0:=h
  rw [decide_eq_true_iff]
  exact ⟨fun h2=>⟨h,by have h2:(0:Int)<(l.length:Int):=h2;omega⟩,fun h2=>by show (0:Int)<(l.length:Int);omega⟩
 ·have h: ¬ wd (R:Int)=0:=h
  exact ⟨fun h2=>(by cases h2),fun h2=>absurd h2.1 h⟩
 obtain ⟨b,l'⟩:=q
 obtain ⟨hq1,hq2⟩:=hq
 dsimp only at hq1 hq2 ⊢
 subst hq1
 have hR:(chr_ s p).1=(R:Int):=by rw [hchr]
 refine Ok.cond (fun h=>?_) fun h=>?_
 ·obtain ⟨h1,h2⟩:=hq2.1 h
  have e1:IntKind.wrap .i64 (((l'.length:Nat):Int) - 1)=((l'.length - 1:Nat):Int):=by rw [wrap64 (by omega) (by omega)];omega
  rw [e1]
  have hlt':l'.length - 1<l'.length:=by omega
  refine Ok.bind (Ok.chkE hlt') fun j hj=>?_
  subst hj
  refine Ok.bind (Ok.nth (Q:=(· =l'[l'.length - 1])) hlt' rfl) fun c hc=>?_
  subst hc
  refine Ok.bind hsub fun u hu=>?_
  subst hu
  have hcl:=hz4 _ (List.getElem_mem hlt')
  refine Ok.bind (Ok.cat (Q:=(· =l'[l'.length - 1].1++(s.drop p).take w)) (by omega) rfl) fun v hv=>?_
  subst hv
  refine Ok.bind (Ok.chkE hlt') fun j hj=>?_
  subst hj
  refine Ok.bind (Ok.nth (Q:=(· =l'[l'.length - 1])) hlt' rfl) fun c hc=>?_
  subst hc
  refine Ok.some ⟨?_,fun c hc=>?_⟩
  ·unfold addC
   rw [hR,if_pos ⟨h1,h2⟩,getD_at hlt',hpc]
  ·rcases List.mem_or_eq_of_mem_set hc with hc | hc
   ·have:=hz4 c hc
    omega
   ·rw [hc]
    show (l'[l'.length - 1].1++(s.drop p).take w).length≤_
    rw [List.length_append];omega
 ·have hn: ¬ (wd (R:Int)=0∧0<l'.length):=fun h2=>by rw [hq2.2 h2] at h;cases h
  refine Ok.bind hsub fun u hu=>?_
  subst hu
  refine Ok.ends ((Ok.appE (by simp only [List.length_cons,List.length_nil];omega)).imp fun m hm=>⟨?_,fun c hc=>?_⟩)
  ·rw [hm]
   unfold addC
   rw [hR,if_neg hn,hpc,hchr]
  ·rw [hm] at hc
   rcases List.mem_append.1 hc with hc | hc
   ·have:=hz4 c hc
    omega
   ·rw [List.mem_singleton.1 hc]
    show ((s.drop p).take w).length≤_
    omega
end Go.Fn
/- Lines of a table, plainly: that they are laid, and how long they are. -/
namespace Go.Fn
open Go Go.Lf
abbrev Gl:Type:=List UInt8×(Int×((Int×(Int×Unit))×(Int×Unit)))
abbrev Ft:Type:=Int×(List (List Gl)×(List Gl×(Int×(List Gl×Unit))))
def GW (g:Gl):Prop:=1≤g.2.1∧g.2.1≤2
def sumW:List Gl→Int
 | []=>0
 | g::r=>g.2.1+sumW r
theorem sumW_app: ∀ (l m:List Gl),sumW (l++m)=sumW l+sumW m
 | [],m=>by simp [sumW]
 | g::r,m=>by simp only [List.cons_append,sumW,sumW_app r m];omega
theorem sumW_bd: ∀ (l:List Gl),(∀ g∈l,GW g)→(l.length:Int)≤sumW l∧sumW l≤2*l.length
 | [],_=>by simp [sumW]
 | g::r,h=>by
  have h1:=sumW_bd r fun g hg=>h g (List.mem_cons_of_mem _ hg)
  have h2:GW g:=h g List.mem_cons_self
  unfold GW at h2
  simp only [sumW,List.length_cons]
  omega
theorem sumW_take {l:List Gl} {i:Nat} {x:Gl} (h:l[i]? =some x):sumW (l.take (i+1))=sumW (l.take i)+x.2.1:=by
 rw [List.take_add_one,h,sumW_app];simp [sumW]
theorem sumW_drop {l:List Gl} {i:Nat} {x:Gl} (h:l[i]? =some x):sumW (l.drop i)=x.2.1+sumW (l.drop (i+1)):=by
 obtain ⟨h1,h2⟩:=List.getElem?_eq_some_iff.1 h
 rw [List.drop_eq_getElem_cons h1,h2];rfl
theorem lt_len {α:Type} {l:List α} {i:Nat} {x:α} (h:l[i]? =some x):i<l.length:=(List.getElem?_eq_some_iff.1 h).1
theorem mem_at {α:Type} {l:List α} {i:Nat} {x:α} (h:l[i]? =some x):x∈l:=List.mem_of_getElem? h
theorem wide_ok {l:List Gl} (hl:l.length≤1000000000000) (hg: ∀ g∈l,GW g):Ok (table_Wide l) (· =sumW l):=by
 unfold table_Wide
 refine Ok.ends (Ok.range l (by omega) (fun i s=>s=sumW (l.take i)) (fun i x s hx hs=>?_) (fun s hs=>?_) rfl)
 ·have hi:=lt_len hx
  subst hs
  refine Ok.yes (by show (i:Int)<_;omega) (Ok.bind (Ok.idxE hx) fun r hr=>?_)
  subst hr
  have h1:=sumW_bd (l.take i) fun g hg'=>hg g (List.mem_of_mem_take hg')
  have h2:GW x:=hg x (mem_at hx)
  unfold GW at h2
  rw [List.length_take] at h1
  refine Ok.inl ⟨wrapS (by omega),?_⟩
  rw [sumW_take hx]
  exact wrap64 (by omega) (by omega)
 ·refine Ok.no (by show ¬ ((l.length:Int)<_);omega) (Ok.inr ?_)
  rw [hs,List.take_length]
def LW (w:Int) (l:List Gl):Prop:=(∀ g∈l,GW g)∧sumW l≤w
theorem LW.len {w:Int} {l:List Gl} (h:LW w l):(l.length:Int)≤w:=by
 have:=sumW_bd l h.1
 have:=h.2
 omega
theorem LW.nil {w:Int} (h:0≤w):LW w []:=⟨fun _ h=>by simp at h,h⟩
theorem LW.mono {v w:Int} {l:List Gl} (h:LW v l) (hw:v≤w):LW w l:=⟨h.1,Int.le_trans h.2 hw⟩
theorem LW.app {v w:Int} {l m:List Gl} (h:LW v l) (h':LW w m):LW (v+w) (l++m):=by
 refine ⟨fun g hg=>?_,?_⟩
 ·rcases List.mem_append.1 hg with hg | hg
  ·exact h.1 g hg
  ·exact h'.1 g hg
 ·rw [sumW_app]
  have:=h.2
  have:=h'.2
  omega
structure FI (w:Int) (n:Nat) (f:Ft):Prop where
 wd:f.1=w
 lo:1≤w
 hi:w≤200
 out:f.2.1.length≤n
 outs: ∀ l∈f.2.1,LW w l
 line:LW w f.2.2.1
 at_:f.2.2.2.1=sumW f.2.2.1
 ws:f.2.2.2.2.1.length≤1
 w1: ∀ g∈f.2.2.2.2.1,g.2.1=1
theorem FI.mono {w:Int} {n m:Nat} {f:Ft} (h:FI w n f) (hm:n≤m):FI w m f:={ h with out:=Nat.le_trans h.out hm }
theorem FI.noW {w:Int} {n:Nat} {f:Ft} (h:FI w n f) {u:Unit}:FI w n (f.1,(f.2.1,(f.2.2.1,(f.2.2.2.1,([],u))))):={ h with ws:=by simp,w1:=by simp }
theorem FI.pos {w:Int} {n:Nat} {f:Ft} (h:FI w n f):0≤f.2.2.2.1∧f.2.2.2.1≤w:=by
 have h1:=sumW_bd _ h.line.1
 have h2:=h.line.2
 rw [h.at_]
 omega
theorem end_ok {w:Int} {n:Nat} {f:Ft} (h:FI w n f) (hn:n≤1000000000):Ok (table_filler__end f) fun f'=>FI w (n+1) f'∧f'.2.2.1=[]∧f'.2.2.2.2.1=[]:=by
 unfold table_filler__end
 have:=h.out
 refine Ok.bind (Ok.appE (by simp only [List.length_cons,List.length_nil];omega)) fun r hr=>Ok.some ?_
 subst hr
 refine ⟨{ wd:=h.wd,lo:=h.lo,hi:=h.hi,out:=?_,outs:=fun l hl=>?_,line:=LW.nil (by have:=h.lo;omega),at_:=rfl,ws:=by simp,w1:=by simp },rfl,rfl⟩
 ·simp only [List.length_append,List.length_cons,List.length_nil];omega
 ·rcases List.mem_append.1 hl with hl | hl
  ·exact h.outs l hl
  ·rw [List.mem_singleton.1 hl];exact h.line
theorem put_ok {w:Int} {n:Nat} {f:Ft} {g:Gl} (h:FI w n f) (hg:GW g) (hw:f.2.2.2.1+g.2.1≤w):Ok (table_filler__put f g) fun f'=>FI w n f'∧f'.2.2.2.1=f.2.2.2.1+g.2.1∧f'.2.2.2.2.1=f.2.2.2.2.1:=by
 unfold table_filler__put
 have h1:=h.line.len
 have h2:=h.hi
 have h3:=h.pos
 have h4:=hg
 unfold GW at h4
 have e:IntKind.wrap .i64 (f.2.2.2.1+g.2.1)=f.2.2.2.1+g.2.1:=wrap64 (by omega) (by omega)
 refine Ok.bind (Ok.appE (by simp only [List.length_cons,List.length_nil];omega)) fun r hr=>Ok.some ?_
 subst hr
 have hs:sumW (f.2.2.1++[g])=f.2.2.2.1+g.2.1:=by rw [sumW_app,h.at_];simp [sumW]
 refine ⟨{ wd:=h.wd,lo:=h.lo,hi:=h.hi,out:=h.out,outs:=h.outs,line:=⟨fun x hx=>?_,?_⟩,at_:=e.trans hs.symm,ws:=h.ws,w1:=h.w1 },e,rfl⟩
 ·rcases List.mem_append.1 hx with hx | hx
  ·exact h.line.1 x hx
  ·rw [List.mem_singleton.1 hx];exact hg
 ·show sumW (f.2.2.1++[g])≤w
  rw [hs];exact hw
theorem kind_eq (g:Gl):table_kind g=some (if g.1=[32] then 0 else if g.1=[9] then 1 else if g.1=[10] then 2 else 3):=by
 unfold table_kind
 by_cases h1:g.1=[32]
 ·rw [decide_eq_true h1,if_pos h1];rfl
 rw [decide_eq_false h1,if_neg h1]
 by_cases h2:g.1=[9]
 ·rw [decide_eq_true h2,if_pos h2];rfl
 rw [decide_eq_false h2,if_neg h2]
 by_cases h3:g.1=[10]
 ·rw [decide_eq_true h3,if_pos h3];rfl
 rw [decide_eq_false h3,if_neg h3];rfl
def kindV (g:Gl):Int:=if g.1=[32] then 0 else if g.1=[9] then 1 else if g.1=[10] then 2 else 3
theorem kind_ok (g:Gl):Ok (table_kind g) (· =kindV g):=⟨_,kind_eq g,rfl⟩
theorem tabbed_ok {w:Int} {n:Nat} {f:Ft} {g:Gl} (h:FI w n f) (hn:n≤1000000000):Ok (table_filler__tabbed f g) (FI w (n+1)):=by
 unfold table_filler__tabbed
 have h2:=h.hi
 have h3:=h.pos
 have e1:IntKind.wrap .i64 (Int.tdiv f.2.2.2.1 8)=f.2.2.2.1 / 8:=by
  rw [Int.tdiv_eq_ediv_of_nonneg h3.1];exact wrap64 (by omega) (by omega)
 refine Ok.bind (Ok.nz (Q:=(· =f.2.2.2.1 / 8)) (by decide) e1) fun r hr=>?_
 subst hr
 have e2:IntKind.wrap .i64 ((IntKind.wrap .i64 (f.2.2.2.1 / 8+1))*8)=(f.2.2.2.1 / 8+1)*8:=by
  rw [wrap64 (x:=f.2.2.2.1 / 8+1) (by omega) (by omega)];exact wrap64 (by omega) (by omega)
 simp only [e2]
 have hw:=h.wd
 refine Ok.ifs (fun _=>Ok.ends ((end_ok h.noW hn).imp fun f' h'=>h'.1)) fun hlt=>Ok.ends ?_
 rw [hw] at hlt
 refine Ok.loop (fun k z=>z.1.2.1=1∧FI w n z.2∧z.2.2.2.2.1+k=(f.2.2.2.1 / 8+1)*8) (fun k z hz=>?_) ((f.2.2.2.1 / 8+1)*8 - f.2.2.2.1).toNat _ (by omega) ⟨rfl,h.noW,?_⟩
 ·obtain ⟨hz1,hz2,hz3⟩:=hz
  refine Ok.ifs (fun hc=>?_) fun hc=>Ok.inr (hz2.mono (by omega))
  refine Ok.bind (put_ok hz2 (show GW z.1 by unfold GW;omega) (by omega)) fun r hr=>Ok.inl ⟨k - 1,by omega,hz1,hr.1,?_⟩
  have:=hr.2.1
  show r.2.2.2.1+_=_
  omega
 ·show f.2.2.2.1+_=_
  omega
theorem leap_ok {w:Int} {n:Nat} {f:Ft} {g:Gl} (h:FI w n f) (hn:n≤1000000000):Ok (table_filler__leap f g) (FI w (n+1)):=by
 unfold table_filler__leap
 refine Ok.bind (kind_ok g) fun k _=>Ok.ifs (fun _=>Ok.ends (tabbed_ok h hn)) fun _=>Ok.ends ((end_ok h hn).imp fun f' h'=>h'.1)
theorem check_ok {l:List Gl} (hl:l.length≤1000000000000):Ok (table_check l) fun e=>e=0→ ∀ g∈l,kindV g=3→GW g:=by
 unfold table_check
 refine Ok.bind (Q:=Nx (fun _=> ∀ g∈l,kindV g=3→GW g) (fun k=>k=120)) ?_ fun r hr=>?_
 ·refine Ok.range0 l (by omega) (fun i=> ∀ g∈l.take i,kindV g=3→GW g) (fun i x hx hi=>?_) (fun hi=>?_) (by simp)
  ·have hlt:=lt_len hx
   refine Ok.yes (by show (i:Int)<_;omega) (Ok.bind (Ok.idxE hx) fun r hr=>?_)
   subst hr
   refine Ok.bind (Q:=fun b=>b=false→kindV x=3→GW x) (Ok.bind (kind_ok x) fun k hk=>?_) fun b hb=>Ok.cond (fun _=>Ok.inr rfl) fun h=>Ok.inl ⟨wrapS (by omega),fun g hg=>?_⟩
   ·subst hk
    refine Ok.ifs (fun hk=>?_) fun hk=>Ok.some fun _ h=>absurd h hk
    cases he:decide (x.1=[]) with
    | true=>exact Ok.some (by simp)
    | false=>
     refine Ok.ifs (fun h1=>Ok.some fun h2 _=>?_) fun h1=>Ok.some fun _ _=>?_
     ·have:=of_decide_eq_false h2
      unfold GW
      omega
     ·unfold GW
      omega
   ·rw [List.take_add_one,hx] at hg
    rcases List.mem_append.1 hg with hg | hg
    ·exact hi g hg
    ·rw [show g=x by simpa using hg]
     exact hb h
  ·refine Ok.no (by show ¬ ((l.length:Int)<_);omega) (Ok.inr ?_)
   show ∀ g∈l,_
   rw [List.take_length] at hi
   exact hi
 ·cases r with
  | inl u=>exact Ok.some fun _=>hr
  | inr k=>exact Ok.some fun h=>by rw [show k=120 from hr] at h;cases h
theorem word_ok {w:Int} {n:Nat} {f:Ft} {a:List Gl} (h:FI w n f) (ha: ∀ g∈a,GW g∧g.2.1≤w) (hn:n+a.length≤900000000):Ok (table_filler__word f a) fun f'=>FI w (n+a.length+1) f':=by
 unfold table_filler__word
 have h2:=h.hi
 have h3:=h.pos
 have h4:=h.ws
 have hb:=sumW_bd a fun g hg=>(ha g hg).1
 refine Ok.bind (wide_ok (by omega) fun g hg=>(ha g hg).1) fun r hr=>?_
 subst hr
 have e1:IntKind.wrap .i64 (IntKind.wrap .i64 (f.2.2.2.1+((f.2.2.2.2.1.length:Nat):Int))+sumW a)=f.2.2.2.1+f.2.2.2.2.1.length+sumW a:=by
  rw [wrap64 (x:=f.2.2.2.1+((f.2.2.2.2.1.length:Nat):Int)) (by omega) (by omega)];exact wrap64 (by omega) (by omega)
 simp only [e1,h.wd]
 refine Ok.ifs (fun hc=>?_) fun hc=>?_
 ·refine Ok.bind (Ok.appE (by omega)) fun r hr=>?_
  have hr2: ∀ g∈r,GW g:=fun g hg=>by
   rw [hr] at hg
   rcases List.mem_append.1 hg with hg | hg
   ·have:=h.w1 g hg
    unfold GW
    omega
   ·exact (ha g hg).1
  have hs1: ∀ l:List Gl,(∀ g∈l,g.2.1=1)→sumW l=l.length:=fun l=>by
   induction l with
   | nil=>intro _;rfl
   | cons x t ih=>
    intro hx
    simp only [sumW,List.length_cons]
    rw [ih fun g hg=>hx g (List.mem_cons_of_mem _ hg),hx x List.mem_cons_self]
    omega
  have hrs:sumW r=f.2.2.2.2.1.length+sumW a:=by rw [hr,sumW_app,hs1 _ h.w1]
  have hrl:r.length=f.2.2.2.2.1.length+a.length:=by rw [hr,List.length_append]
  refine Ok.bind (Q:=fun f'=> ∃ u,FI w n (f'.1,(f'.2.1,(f'.2.2.1,(f'.2.2.2.1,([],u)))))) ?_ fun f' hf'=>Ok.some ?_
  ·refine Ok.range r (by omega) (fun i s=>s.1=r∧(∃ u,FI w n (s.2.1,(s.2.2.1,(s.2.2.2.1,(s.2.2.2.2.1,([],u))))))∧s.2.2.2.2.1+sumW (r.drop i)≤w) (fun i x s hx hs=>?_) (fun s hs=>?_) ⟨rfl,⟨(),by first | (have:=h.noW (u:=());rw [h.wd] at this;exact this) | exact h.noW⟩,?_⟩
   ·obtain ⟨hs1,⟨u,hs2⟩,hs3⟩:=hs
    have hlt:=lt_len hx
    refine Ok.yes (by show (i:Int)<_;omega) (Ok.bind (Ok.chkE (i:=i) (by rw [hs1];omega)) fun k hk=>?_)
    subst hk
    refine Ok.bind (Q:=(· =x)) (Ok.of (show nth s.1 i=_ by rw [hs1];exact hx) rfl) fun y hy=>?_
    subst hy
    have hp:=put_ok (g:=y) hs2 (hr2 y (mem_at hx)) (by
     have:=sumW_drop hx
     have:=sumW_bd (r.drop (i+1)) fun g hg=>hr2 g (List.mem_of_mem_drop hg)
     show s.2.2.2.2.1+y.2.1≤w
     omega)
    obtain ⟨f',hf',hq⟩:=hp
    unfold table_filler__put at hf'
    refine Ok.bind (Q:=fun q=>(∃ u,FI w n (q.1,(q.2.1,(q.2.2.1,(q.2.2.2.1,([],u))))))∧q.2.2.2.1=s.2.2.2.2.1+y.2.1) ?_ fun q hq=>Ok.inl ⟨wrapS (by omega),hs1,hq.1,?_⟩
    ·unfold table_filler__putD
     obtain ⟨t,ht,he⟩:=Option.bind_eq_some_iff.1 hf'
     injection he with he
     subst he
     exact Ok.bind (Ok.of ht rfl) fun t' ht'=>Ok.some ⟨⟨_,by subst ht';exact hq.1⟩,hq.2.1⟩
    ·show q.2.2.2.1+sumW (r.drop (i+1))≤w
     rw [hq.2]
     have:=sumW_drop hx
     omega
   ·obtain ⟨hs1,hs2,_⟩:=hs
    exact Ok.no (by show ¬ ((r.length:Int)<_);omega) (Ok.inr hs2)
   ·show f.2.2.2.1+sumW (r.drop 0)≤w
    rw [List.drop_zero,hrs]
    omega
  ·obtain ⟨u,hf'⟩:=hf'
   exact FI.mono hf' (by omega)
 ·refine Ok.bind (Q:=fun f'=>FI w (n+1) f'∧f'.2.2.2.2.1=[]) (Ok.ifs (fun _=>Ok.ends ((end_ok h.noW (by omega)).imp fun f' h'=>⟨h'.1,h'.2.2⟩)) fun _=>Ok.some ⟨h.noW.mono (by omega),rfl⟩) fun f1 hf1=>Ok.ends ?_
  refine Ok.range a (by omega) (fun i s=>FI w (n+1+i) s∧s.2.2.2.2.1=[]) (fun i x s hx hs=>?_) (fun s hs=>?_) hf1
  ·have hlt:=lt_len hx
   refine Ok.yes (by show (i:Int)<_;omega) (Ok.bind (Ok.idxE hx) fun y hy=>?_)
   subst hy
   have hx1:=ha x (mem_at hx)
   have hx2:=hx1.1
   unfold GW at hx2
   have hp:=hs.1.pos
   have ew:IntKind.wrap .i64 (s.2.2.2.1+x.2.1)=s.2.2.2.1+x.2.1:=wrap64 (by omega) (by omega)
   refine Ok.bind (Q:=fun q=>q.2=x∧FI w (n+1+i+1) q.1∧q.1.2.2.2.2.1=[]∧q.1.2.2.2.1+x.2.1≤w) ?_ fun q hq=>?_
   ·refine Ok.ifs (fun _=>Ok.bind (end_ok hs.1 (by omega)) fun f2 hf2=>Ok.some ⟨rfl,hf2.1,hf2.2.2,?_⟩) fun hc=>Ok.some ⟨rfl,hs.1.mono (by omega),hs.2,?_⟩
    ·have:=hf2.1.at_
     rw [hf2.2.1] at this
     show f2.2.2.2.1+x.2.1≤w
     rw [this]
     show 0+x.2.1≤w
     omega
    ·have hw:=hs.1.wd
     have hc: ¬ (s.1<IntKind.wrap .i64 (s.2.2.2.1+x.2.1)):=hc
     rw [ew,hw] at hc
     show s.2.2.2.1+x.2.1≤w
     omega
   ·obtain ⟨hq1,hq2,hq3,hq4⟩:=hq
    refine Ok.bind (put_ok (g:=q.2) hq2 (by rw [hq1];exact hx1.1) (by rw [hq1];exact hq4)) fun f3 hf3=>Ok.inl ⟨wrapS (by omega),FI.mono hf3.1 (by omega),?_⟩
    exact hf3.2.2.trans hq3
  ·exact Ok.no (by show ¬ ((a.length:Int)<_);omega) (Ok.inr (hs.1.mono (by omega)))
theorem fill1_ok {w:Int} {n:Nat} {f:Ft} {a:List Gl} (h:FI w n f) (ha: ∀ g∈a,GW g∧g.2.1≤w) (hn:n+a.length≤900000000):Ok (table_Fill_1 a f) fun r=>r.1=[]∧FI w (n+a.length+1) r.2:=by
 unfold table_Fill_1
 refine Ok.ifs (fun _=>Ok.bind (word_ok h ha hn) fun r hr=>Ok.some ⟨rfl,hr⟩) fun hc=>Ok.some ⟨?_,h.mono (by omega)⟩
 have hc: ¬ ((0:Int)<(a.length:Int)):=hc
 show a=[]
 exact List.eq_nil_of_length_eq_zero (by omega)
theorem fill_ok {l:List Gl} {w:Int} (hl:l.length≤100000000):Ok (table_Fill l w) fun r=>r.1.length≤3*l.length+2∧ ∀ x∈r.1,LW w x∧1≤w∧w≤200:=by
 unfold table_Fill
 refine Ok.bind (Q:=fun b=>b=false→1≤w∧w≤200) ?_ fun b hb=>Ok.cond (fun _=>Ok.some ⟨by simp,by simp⟩) fun h=>?_
 ·cases h1:decide (w<1) with
  | true=>exact Ok.some (by simp)
  | false=>
   have h1:=of_decide_eq_false h1
   exact Ok.some fun h=>⟨by omega,by have:=of_decide_eq_false h;omega⟩
 obtain ⟨hlo,hhi⟩:=hb h
 refine Ok.bind (check_ok (by omega)) fun e he=>Ok.ifs (fun _=>Ok.some ⟨by simp,by simp⟩) fun h0=>?_
 have hg:=he (by omega)
 refine Ok.bind (Q:=fun r=> ∃ n,FI w n r.1∧n+r.2.length≤3*l.length∧ ∀ g∈r.2,GW g∧g.2.1≤w) ?_ fun r hr=>?_
 ·refine Ok.range l (by omega) (fun i s=> ∃ n,FI w n s.2∧n+s.1.length≤3*i∧ ∀ g∈s.1,GW g∧g.2.1≤w) (fun i x s hx hs=>?_) (fun s hs=>?_) ⟨0,⟨rfl,hlo,hhi,by simp,by simp,LW.nil (by omega),rfl,by simp,by simp⟩,by simp,by simp⟩
  ·obtain ⟨n,hs1,hs2,hs3⟩:=hs
   have hlt:=lt_len hx
   refine Ok.yes (by show (i:Int)<_;omega) (Ok.bind (Q:=fun r=> ∃ n,FI w n r.2∧n+r.1.length≤3*(i+1)∧ ∀ g∈r.1,GW g∧g.2.1≤w) ?_ fun r hr=>Ok.inl ⟨wrapS (by omega),hr⟩)
   refine Ok.bind (Ok.idxE hx) fun y hy=>?_
   subst hy
   refine Ok.bind (kind_ok x) fun k hk=>?_
   refine Ok.bind (Q:=Nx (fun q=>q.1=s.1∧q.2.1=s.2) (Nx (fun q:List Gl×Ft=> ∃ n,FI w n q.2∧n+q.1.length≤3*(i+1)∧ ∀ g∈q.1,GW g∧g.2.1≤w) (fun q:List Gl×Ft=> ∃ n,FI w n q.2∧n+q.1.length≤3*(i+1)∧ ∀ g∈q.1,GW g∧g.2.1≤w))) ?_ fun q hq=>?_
   ·refine Ok.ifs (fun h3=>?_) fun h3=>Ok.ifs (fun h4=>?_) fun h4=>Ok.ifs (fun h5=>Ok.inl ⟨rfl,rfl⟩) fun h5=>Ok.ifs (fun h6=>Ok.inl ⟨rfl,rfl⟩) fun h6=>Ok.inr ⟨n,hs1,by show n+s.1.length≤_;omega,hs3⟩
    ·have hgx:=hg x (mem_at hx) (by rw [← hk];exact h3)
     refine Ok.bind (Q:=fun q=>q.1=s.1∧q.2.1=s.2∧GW q.2.2∧q.2.2.2.1≤w) (Ok.ifs (fun _=>Ok.some ⟨rfl,rfl,by unfold GW;simp,hlo⟩) fun hc=>Ok.some ⟨rfl,rfl,hgx,Int.not_lt.1 hc⟩) fun q hq=>?_
     obtain ⟨hq1,hq2,hq3,hq4⟩:=hq
     have hsl:s.1.length≤3*i:=by omega
     refine Ok.bind (Ok.appE (by rw [hq1];simp only [List.length_cons,List.length_nil];omega)) fun t ht=>Ok.inr ⟨n,?_,?_,?_⟩
     ·show FI w n q.2.1
      rw [hq2];exact hs1
     ·show n+t.length≤_
      rw [ht,hq1,List.length_append];simp only [List.length_cons,List.length_nil];omega
     ·show ∀ g∈t,_
      rw [ht,hq1]
      intro g hg
      rcases List.mem_append.1 hg with hg | hg
      ·exact hs3 g hg
      ·rw [List.mem_singleton.1 hg];exact ⟨hq3,hq4⟩
    ·refine Ok.bind (Q:=fun p:List Gl×Ft=> ∃ n,FI w n p.2∧n+p.1.length≤3*(i+1)∧ ∀ g∈p.1,GW g∧g.2.1≤w) ?_ fun p hp=>Ok.inr hp
     refine Ok.bind (fill1_ok (f:=s.2) (a:=s.1) hs1 hs3 (by omega)) fun t ht=>?_
     refine Ok.bind (Q:=fun q=>q.2.1=[]∧q.2.2.1=t.2) ?_ fun q hq=>?_
     ·exact Ok.ifs (fun _=>Ok.some ⟨ht.1,rfl⟩) fun _=>Ok.some ⟨ht.1,rfl⟩
     ·obtain ⟨hq1,hq2⟩:=hq
      refine Ok.cond (fun hc=>Ok.some ⟨n+s.1.length+1,?_,?_,?_⟩) fun _=>Ok.some ⟨n+s.1.length+1,?_,?_,?_⟩
      ·have h9:=ht.2
       rw [← hq2] at h9
       exact { h9 with ws:=by simp,w1:=by intro g hg;rw [List.mem_singleton.1 hg] }
      ·show _+q.2.1.length≤_
       rw [hq1];simp only [List.length_nil];omega
      ·show ∀ g∈q.2.1,_
       rw [hq1];simp
      ·show FI w _ q.2.2.1
       rw [hq2];exact ht.2
      ·show _+q.2.1.length≤_
       rw [hq1];simp only [List.length_nil];omega
      ·show ∀ g∈q.2.1,_
       rw [hq1];simp
   ·cases q with
    | inl a=>
     obtain ⟨ha1,ha2⟩:=hq
     refine Ok.bind (fill1_ok (f:=a.2.1) (a:=a.1) (by rw [ha2];exact hs1) (by rw [ha1];exact hs3) (by rw [ha1];omega)) fun t ht=>?_
     rw [ha1] at ht
     refine Ok.bind (leap_ok ht.2 (by omega)) fun f2 hf2=>Ok.some ⟨_,hf2,?_,?_⟩
     ·show _+t.1.length≤_
      rw [ht.1];simp only [List.length_nil];omega
     ·show ∀ g∈t.1,_
      rw [ht.1];simp
    | inr b=>
     cases b with
     | inl c=>exact Ok.some hq
     | inr c=>exact Ok.some hq
  ·obtain ⟨n,hs1,hs2,hs3⟩:=hs
   exact Ok.no (by show ¬ ((l.length:Int)<_);omega) (Ok.inr ⟨n,hs1,hs2,hs3⟩)
 ·obtain ⟨n,hr1,hr2,hr3⟩:=hr
  refine Ok.bind (fill1_ok hr1 hr3 (by omega)) fun t ht=>?_
  refine Ok.bind (Q:=FI w (3*l.length+2)) (Ok.ifs (fun _=>Ok.ends ((end_ok ht.2 (by omega)).imp fun f' hf'=>hf'.1.mono (by omega))) fun _=>Ok.some (ht.2.mono (by omega))) fun f' hf'=>Ok.some ⟨hf'.out,fun x hx=>⟨hf'.outs x hx,hlo,hhi⟩⟩
end Go.Fn
/- The document's characters and cells, plainly: the same as the program's. -/
namespace Go.Fn
open Go Go.Lf
theorem in_eq (r a b:Int):folioref02_in r a b=some (btw r a b):=by
 unfold folioref02_in btw
 rw [and_some];rfl
theorem ctrl_eq (r:Int) (h:0≤r):folioref02_Control r=some (ctl r):=by
 unfold folioref02_Control ctl btw
 rw [decide_eq_true h,and_some]
 cases decide (r<32)<;>rfl
theorem nor_some (p q:Bool):(bif (!p) then some q else some true)=some (p || q):=by cases p<;>rfl
theorem wid_eq (r:Int) (h:0≤r):folioref02_Width r=some (wd r):=by
 unfold folioref02_Width
 simp only [ctrl_eq r h,in_eq,Option.bind_some,nor_some]
 have e0:w0 r=(ctl r || (btw r 768 879 || (btw r 8203 8205 || btw r 65024 65039))):=by
  unfold w0 ctl
  rw [decide_eq_true h,Bool.true_and,Bool.or_assoc]
 have e2:w2 r=((btw r 4352 4447 || (btw r 11904 12350 || (btw r 12353 13311 || (btw r 13312 19903 || (btw r 19968 42191 || btw r 44032 55203))))) || (btw r 63744 64255 || (btw r 65072 65135 || (btw r 65280 65376 || (btw r 65504 65510 || (btw r 127744 128591 || (btw r 129280 129535 || btw r 131072 262141))))))):=by
  have:w2 r=(btw r 4352 4447 || (btw r 11904 12350 || (btw r 12353 13311 || (btw r 13312 19903 || (btw r 19968 42191 || (btw r 44032 55203 || (btw r 63744 64255 || (btw r 65072 65135 || (btw r 65280 65376 || (btw r 65504 65510 || (btw r 127744 128591 || (btw r 129280 129535 || (btw r 131072 262141 || false))))))))))))):=rfl
  rw [this]
  simp only [Bool.or_assoc,Bool.or_false]
 unfold wd
 rw [e0,e2]
 generalize (ctl r || (btw r 768 879 || (btw r 8203 8205 || btw r 65024 65039)))=A
 generalize (btw r 4352 4447 || (btw r 11904 12350 || (btw r 12353 13311 || (btw r 13312 19903 || (btw r 19968 42191 || btw r 44032 55203)))))=B
 generalize (btw r 63744 64255 || (btw r 65072 65135 || (btw r 65280 65376 || (btw r 65504 65510 || (btw r 127744 128591 || (btw r 129280 129535 || btw r 131072 262141))))))=C
 cases A<;>cases B<;>cases C<;>rfl
theorem ch_get (l:List UInt8): ∀ (f p:Nat),l.length≤p+f→ ∀ (i:Nat) c,(chS l f p)[i]? =some c→
  (∃ q:Nat,c=chr_ l q∧q<l.length)∧(match (chS l f p)[i+1]? with | some d=>d.2.1=c.2.1+c.2.2.1 | none=>(l.length:Int)=c.2.1+c.2.2.1)
 | 0,p,_,i,c,h=>by simp [chS] at h
 | f+1,p,hf,i,c,h=>by
  by_cases hp:p<l.length
  ·have hw:=Lib.decodeL_width (l.drop p)
   have hfit:=dec_fit l p hp
   rw [ch_cons hp] at h ⊢
   cases i with
   | zero=>
    have hc:chr_ l p=c:=by simpa using h
    subst hc
    refine ⟨⟨p,rfl,hp⟩,?_⟩
    simp only [List.getElem?_cons_succ]
    by_cases hq:p+(Lib.decodeL (l.drop p)).2<l.length
    ·cases f with
     | zero=>omega
     | succ f=>rw [ch_cons hq];simp [chr_]
    ·rw [ch_nil hq]
     simp [chr_];omega
   | succ i=>
    have:=ch_get l f (p+(Lib.decodeL (l.drop p)).2) (by omega) i c (by simpa using h)
    simpa using this
  ·rw [ch_nil hp] at h;simp at h
def mixC (F:List Chr) (i:Nat):List Chr:=F.take i++(F.drop i).map rawC
theorem mix_len (F:List Chr) (i:Nat):(mixC F i).length=F.length:=by simp [mixC];omega
theorem mix_hi {F:List Chr} {i j:Nat} {c:Chr} (hj:i≤j) (h:F[j]? =some c):(mixC F i)[j]? =some (rawC c):=by
 have hl:=(List.getElem?_eq_some_iff.1 h).1
 unfold mixC
 rw [List.getElem?_append_right (by simp;omega),List.getElem?_map,List.getElem?_drop]
 rw [show i+(j - (F.take i).length)=j by simp;omega,h]
 rfl
theorem mix_set {F:List Chr} {i:Nat} {c:Chr} (h:F[i]? =some c):(mixC F i).set i c=mixC F (i+1):=by
 obtain ⟨hl,hc⟩:=List.getElem?_eq_some_iff.1 h
 unfold mixC
 have h1:F.take (i+1)=F.take i++[c]:=by rw [List.take_add_one,h];rfl
 rw [List.drop_eq_getElem_cons hl,hc,List.map_cons,List.set_append_right _ _ (by simp;omega),h1]
 simp [show i - min i F.length=0 by omega]
theorem chars_eq (l:List UInt8) (hl:l.length≤1000000000):folioref02_Chars l=some (chS l l.length 0):=by
 refine Ok.eq ?_
 unfold folioref02_Chars
 refine Ok.bind (Q:=(· =(chS l l.length 0).map rawC)) ?_ fun r hr=>?_
 ·refine Ok.loop (fun k (z:List Chr×(List UInt8×Int))=> ∃ p:Nat,z.2=(l,(p:Int))∧p+k=l.length∧z.1.length≤p∧z.1++(chS l l.length p).map rawC=(chS l l.length 0).map rawC) (fun k z hz=>?_) l.length _ (by omega) ⟨0,rfl,by omega,Nat.le_refl _,rfl⟩
  obtain ⟨acc,z2⟩:=z
  obtain ⟨p,hz1,hz2,hz3,hz4⟩:=hz
  dsimp only at hz1 hz3 hz4 ⊢
  subst hz1
  dsimp only
  refine Ok.ifs (fun hlt=>?_) fun hge=>Ok.inr ?_
  ·have hlt:(p:Int)<(l.length:Int):=hlt
   have hpl:p<l.length:=by omega
   obtain ⟨er,ew⟩:=rune_at l p
   have hw1:=Lib.decodeL_width (l.drop p)
   have hw2:=dec_fit l p hpl
   rw [er,ew]
   refine Ok.bind (Ok.appE (by simp only [List.length_cons,List.length_nil];omega)) fun m hm=>Ok.inl ⟨k - (Lib.decodeL (l.drop p)).2,by omega,p+(Lib.decodeL (l.drop p)).2,?_,by omega,?_,?_⟩
   ·show (l,(p:Int)+((Lib.decodeL (l.drop p)).2:Int))=_
    rw [Int.natCast_add]
   ·subst hm
    show (acc++[_]).length≤_
    rw [List.length_append];simp only [List.length_cons,List.length_nil];omega
   ·subst hm
    rw [ch_step hpl,List.map_cons] at hz4
    rw [← hz4]
    simp [rawC,chr_]
  ·have hge: ¬ (p:Int)<(l.length:Int):=hge
   rw [ch_nil (by omega)] at hz4
   simpa using hz4
 ·subst hr
  have hF:=ch_get l l.length 0 (by omega)
  have hFl:=ch_len l l.length 0
  generalize hFe:chS l l.length 0=F at*
  refine Ok.ends (Ok.loop (fun k (z:Int×List Chr)=> ∃ i:Nat,z=((i:Int),mixC F i)∧i+k=F.length) (fun k z hz=>?_) F.length _ (by omega) ⟨0,by simp [mixC],by omega⟩)
  obtain ⟨i,rfl,hi⟩:=hz
  dsimp only
  have hml:=mix_len F i
  refine Ok.ifs (fun hlt=>?_) fun hge=>Ok.inr ?_
  case refine_2=>
   have hge: ¬ (i:Int)<((mixC F i).length:Int):=hge
   have:i=F.length:=by omega
   rw [this];simp [mixC]
  have hlt:(i:Int)<((mixC F i).length:Int):=hlt
  have hi':i<F.length:=by omega
  obtain ⟨c,hc⟩: ∃ c,F[i]? =some c:=⟨_,List.getElem?_eq_getElem hi'⟩
  obtain ⟨⟨q,hq,hql⟩,hnx⟩:=hF i c hc
  have hwf:=dec_fit l q hql
  have hw:IntKind.wrap .i64 ((i:Int)+1)=((i+1:Nat):Int):=wrapS (by omega)
  have chkN: ∀ {n j:Nat},j<n→chk n (j:Int)=some j:=fun {n j} h=>by unfold chk;rw [if_pos (by omega)];simp
  have hck: ∀ L:List Chr,L.length=F.length→chk L.length (i:Int)=some i:=fun L hL=>chkN (by omega)
  have hn0:nth (mixC F i) i=some (rawC c):=mix_hi (Nat.le_refl _) hc
  have hend:(bif (decide ((IntKind.wrap .i64 ((i:Int)+(1:Int)))<(((List.length (mixC F i)):Nat):Int))) then ((Go.Lf.chk (List.length (mixC F i)) (IntKind.wrap .i64 ((i:Int)+(1:Int))))).bind fun r5=>
     ((Go.Lf.nth (mixC F i) r5)).bind fun r6=>
     some (mixC F i,r6.2.1)
     else some (mixC F i,(((List.length l):Nat):Int)))=some (mixC F i,c.2.1+c.2.2.1):=by
   rw [hw]
   by_cases h1:i+1<F.length
   ·have h1':((i+1:Nat):Int)<(((mixC F i).length:Nat):Int):=by rw [hml];omega
    obtain ⟨d,hd⟩: ∃ d,F[i+1]? =some d:=⟨_,List.getElem?_eq_getElem h1⟩
    rw [hd] at hnx
    have hnx:d.2.1=c.2.1+c.2.2.1:=hnx
    have hk1:chk (mixC F i).length ((i+1:Nat):Int)=some (i+1):=chkN (by rw [hml];omega)
    have hn1:nth (mixC F i) (i+1)=some (rawC d):=mix_hi (by omega) hd
    simp only [h1',decide_true,cond_true,hk1,Option.bind_some,hn1,rawC,hnx]
   ·have h1': ¬ ((i+1:Nat):Int)<(((mixC F i).length:Nat):Int):=by rw [hml];omega
    rw [List.getElem?_eq_none (by omega)] at hnx
    have hnx:((l.length:Nat):Int)=c.2.1+c.2.2.1:=hnx
    simp only [h1',decide_false,cond_false,hnx]
  have hwn:IntKind.wrap .i64 (c.2.1+c.2.2.1 - c.2.1)=c.2.2.1:=by
   rw [hq]
   simp only [chr_]
   rw [wrap64 (by omega) (by omega)];omega
  have hset1: ∀ x:Chr,nth ((mixC F i).set i x) i=some x:=fun x=>by
   unfold nth
   rw [List.getElem?_set_self (by rw [hml];exact hi')]
  refine Ok.bind (Q:=(· =mixC F (i+1))) (Ok.of ?_ rfl) fun r hr=>Ok.inl ⟨k - 1,by omega,i+1,by rw [hr,hw],by omega⟩
  rw [hend]
  simp only [Option.bind_some,hck _ hml,hn0,rawC,hwn,List.length_set,hset1,List.set_set,u2,u3]
  have hfin: ∀ b:Bool,b=c.2.2.2.1→(mixC F i).set i (c.1,c.2.1,c.2.2.1,b,())=mixC F (i+1):=fun b hb=>by
   rw [← mix_set hc,hb]
  have hbad:c.2.2.2.1=(decide (c.1=65533) && decide (c.2.2.1=1)):=by
   rw [hq]
   have e1:decide ((((Lib.decodeL (l.drop q)).1:Nat):Int)=65533)=decide ((Lib.decodeL (l.drop q)).1=65533):=decide_eq_decide.2 (by omega)
   have e2:decide ((((Lib.decodeL (l.drop q)).2:Nat):Int)=1)=decide ((Lib.decodeL (l.drop q)).2=1):=decide_eq_decide.2 (by omega)
   show _=(decide ((((Lib.decodeL (l.drop q)).1:Nat):Int)=65533) && decide ((((Lib.decodeL (l.drop q)).2:Nat):Int)=1))
   rw [e1,e2]
   rfl
  cases h65:decide (c.1=65533) with
  | true=>
   rw [h65,Bool.true_and] at hbad
   simp only [cond_true]
   rw [hfin _ hbad.symm]
  | false=>
   rw [h65,Bool.false_and] at hbad
   simp only [cond_false]
   rw [hfin _ hbad.symm]
theorem ch_mem {l:List UInt8} {i:Nat} {c:Chr} (h:(chS l l.length 0)[i]? =some c): ∃ q:Nat,c=chr_ l q∧q<l.length:=(ch_get l l.length 0 (by omega) i c h).1
theorem piece_sub {l:List UInt8} {q:Nat} (hq:q<l.length) (hl:l.length≤1000000000):sub l (chr_ l q).2.1 (IntKind.wrap .i64 ((chr_ l q).2.1+(chr_ l q).2.2.1))=some (piece l (chr_ l q)):=by
 have hw:=dec_fit l q hq
 unfold piece chr_
 dsimp only
 rw [wrap64 (by omega) (by omega)]
 unfold sub
 rw [if_pos (by omega)]
 congr 2
 omega
def big (i:Nat):Nat:=i*1000000
theorem big_s (i:Nat):big (i+1)=big i+1000000:=by unfold big;omega
theorem big_le {i:Nat} (h:i≤1000000):big i≤1000000000000:=by unfold big;omega
theorem cells_ref (l:List UInt8) (hl:l.length≤1000000):folioref02_Cells l=some (cellsS l):=by
 refine Ok.eq ?_
 unfold folioref02_Cells cellsS
 rw [chars_eq l (by omega),Option.bind_some]
 have hFl:=ch_len l l.length 0
 have hm:= @ch_mem l
 generalize chS l l.length 0=F at*
 refine Ok.ends (Ok.range F (by omega) (fun i out=>out=(F.take i).foldl (addC l) []∧out.length≤i∧ ∀ c∈out,c.1.length≤big i) (fun i c out hc hs=>?_) (fun out hs=>?_) ⟨rfl,by simp,by simp⟩)
 ·obtain ⟨hs1,hs2,hs3⟩:=hs
  have hlt:=lt_len hc
  obtain ⟨q,hq,hql⟩:=hm hc
  refine Ok.yes (by show (i:Int)<_;omega) ?_
  have hx:idx F (i:Int)=some c:=by rw [idx_nat,hc]
  have hwd:folioref02_Width c.1=some (wd c.1):=wid_eq _ (by rw [hq];exact Int.natCast_nonneg _)
  have hsb:sub l c.2.1 (IntKind.wrap .i64 (c.2.1+c.2.2.1))=some (piece l c):=by rw [hq];exact piece_sub hql (by omega)
  have hbs:=big_s i
  have hbl:=big_le (i:=i) (by omega)
  have hpl:(piece l c).length≤1000000:=by
   unfold piece
   rw [List.length_take,List.length_drop];omega
  simp only [hx,Option.bind_some,hwd,hsb]
  refine Ok.bind (Q:=fun m:List Cel=>m=addC l out c∧ ∀ x∈m,x.1.length≤big (i+1)) ?_ fun m hm2=>Ok.inl ⟨wrapS (by omega),?_,?_,hm2.2⟩
  case refine_2=>rw [List.take_add_one,hc,List.foldl_append, ← hs1];exact hm2.1
  case refine_3=>
   have:=addC_len l out c
   show m.length≤_
   rw [hm2.1];omega
  refine Ok.bind (Q:=fun q=>q.2=out∧(q.1=true↔(wd c.1=0∧0<out.length))) (Ok.ifs (fun h=>Ok.some ⟨rfl,?_⟩) fun h=>Ok.some ⟨rfl,?_⟩) fun q hq=>?_
  ·have h:wd c.1=0:=h
   rw [decide_eq_true_iff]
   exact ⟨fun h2=>⟨h,by have h2:(0:Int)<(out.length:Int):=h2;omega⟩,fun h2=>by show (0:Int)<(out.length:Int);omega⟩
  ·have h: ¬ wd c.1=0:=h
   exact ⟨fun h2=>(by cases h2),fun h2=>absurd h2.1 h⟩
  obtain ⟨b,out'⟩:=q
  obtain ⟨hq1,hq2⟩:=hq
  dsimp only at hq1 hq2 ⊢
  subst hq1
  refine Ok.cond (fun h=>?_) fun h=>?_
  ·obtain ⟨h1,h2⟩:=hq2.1 h
   have e1:IntKind.wrap .i64 (((out'.length:Nat):Int) - 1)=((out'.length - 1:Nat):Int):=by rw [wrap64 (by omega) (by omega)];omega
   rw [e1]
   have hlt':out'.length - 1<out'.length:=by omega
   refine Ok.bind (Ok.chkE hlt') fun j hj=>?_
   subst hj
   refine Ok.bind (Ok.nth (Q:=(· =out'[out'.length - 1])) hlt' rfl) fun x hx=>?_
   subst hx
   have hcl:=hs3 _ (List.getElem_mem hlt')
   refine Ok.bind (Ok.cat (Q:=(· =out'[out'.length - 1].1++piece l c)) (by omega) rfl) fun v hv=>?_
   subst hv
   refine Ok.bind (Ok.chkE hlt') fun j hj=>?_
   subst hj
   refine Ok.bind (Ok.nth (Q:=(· =out'[out'.length - 1])) hlt' rfl) fun x hx=>?_
   subst hx
   refine Ok.some ⟨?_,fun x hx=>?_⟩
   ·unfold addC
    rw [if_pos ⟨h1,h2⟩,getD_at hlt']
   ·rcases List.mem_or_eq_of_mem_set hx with hx | hx
    ·have:=hs3 x hx
     omega
    ·rw [hx]
     show (out'[out'.length - 1].1++piece l c).length≤_
     rw [List.length_append];omega
  ·have hn: ¬ (wd c.1=0∧0<out'.length):=fun h2=>by rw [hq2.2 h2] at h;cases h
   refine Ok.ends ((Ok.appE (by simp only [List.length_cons,List.length_nil];omega)).imp fun m hm=>⟨?_,fun x hx=>?_⟩)
   ·rw [hm]
    unfold addC
    rw [if_neg hn]
   ·rw [hm] at hx
    rcases List.mem_append.1 hx with hx | hx
    ·have:=hs3 x hx
     omega
    ·rw [List.mem_singleton.1 hx]
     show (piece l c).length≤_
     omega
 ·obtain ⟨hs1,_⟩:=hs
  rw [List.take_length] at hs1
  exact Ok.no (by show ¬ ((F.length:Int)<_);omega) (Ok.inr hs1)
end Go.Fn
